/-
  
  
  
  
  
  
  
  
  
  
-/
import Derived.Test.YtnflaaoapmhjgaaC3
import Derived.Test.YtnflaaoapmhjgaaC4
import Derived.Deep.DeepCutAuto
import Derived.Test.YtnflaaoapmhjgaaC2
namespace Go.Proofs.Ytnflaaoapmhjgaa
open Go.ChangeShapes Go.WideShapes Go.ChangeAt Go.RowKit

theorem Kept.alloc {S : List Nat} {w w' : World} (h : Kept S w w') (o : Obj) : Kept S w (w'.alloc o) :=
  ⟨h.os, h.tape, h.output, by simp; have := h.size; omega, fun k hk hn => (Below.heap_alloc _ _ _ (by have := h.size; omega)).trans (h.block k hk hn)⟩
theorem Kept.setCell {S : List Nat} {w w' : World} (h : Kept S w w') {p : Addr} (hp : p.block ∈ S ∨ w.heap.size ≤ p.block) (u : Value) : Kept S w (w'.setCell p u) :=
  ⟨h.os, h.tape, h.output, by simp; exact h.size, fun k hk hn => (Below.heap_setCell _ _ _ _ (fun e => by subst e; rcases hp with hp | hp; exact hn hp; omega)).trans (h.block k hk hn)⟩
theorem Kept.of_below {S : List Nat} {w w' : World} (h : Below w.heap.size w w') : Kept S w w' := ⟨h.os, h.tape, h.output, h.size, fun k hk _ => h.block k hk⟩
theorem Kept.then_below {S : List Nat} {w w1 w2 : World} (h : Kept S w w1) (hb : Below w1.heap.size w1 w2) : Kept S w w2 :=
  ⟨hb.os.trans h.os, hb.tape.trans h.tape, hb.output.trans h.output, Nat.le_trans h.size hb.size, fun k hk hn => (hb.block k (by have := h.size; omega)).trans (h.block k hk hn)⟩
theorem Kept.below {S : List Nat} {w w' : World} {B : Nat} (h : Kept S w w') (hS : ∀ k ∈ S, B ≤ k) (hB : B ≤ w.heap.size) : Below B w w' :=
  ⟨h.os, h.tape, h.output, h.size, fun k hk => h.block k (by omega) (fun hx => by have := hS k hx; omega)⟩

/-- What Put returns, and what it leaves. -/
def PutPost (w : World) (B tb : Nat) (R : Bool → Tr) (c : Int) (p : PV) (hop : Int) (e : Ending) (w' : World) : Prop :=
  e = .returned (.int .i64 (hopAt (R p.six) p)) ∧ (∃ G1 G2, Tab w' B tb (upd R p.six (putT p hop G1 G2 (R p.six))) (if hopAt (R p.six) p = 0 then c + 1 else c)) ∧ Kept (tabBlocks tb R) w w'

theorem chk_of {six : Bool} {hi lo n : Int} (h : Pfx six hi lo n) : chk six hi lo n = 0 := by
  unfold chk
  have := h.len
  rw [if_neg (by simp [h.may]), if_neg (by omega), if_pos h.clean]
theorem bothE_of {six : Bool} {hi lo n hi' lo' n' : Int} (h : Pfx six hi lo n) (h' : Pfx six hi' lo' n') : bothE six hi lo n six hi' lo' n' = 0 := by
  unfold bothE
  simp [chk_of h, chk_of h']
theorem keepF {w1 X : World} (hb : Below w1.heap.size w1 X) :
    (∀ b o, b < w1.heap.size → X.cell? ⟨b, o, none⟩ = w1.cell? ⟨b, o, none⟩) ∧ w1.heap.size ≤ X.heap.size ∧ Hid (Below w1.heap.size w1 X) :=
  ⟨fun b o h => hb.cell (p := ⟨b, o, none⟩) h, hb.size, hb⟩
theorem keepS {w1 X : World} (h : (∀ b o, b < w1.heap.size → X.cell? ⟨b, o, none⟩ = w1.cell? ⟨b, o, none⟩) ∧ w1.heap.size ≤ X.heap.size ∧ Hid (Below w1.heap.size w1 X)) {p : Addr} (hp : w1.heap.size ≤ p.block) (u : Value) :
    (∀ b o, b < w1.heap.size → (X.setCell p u).cell? ⟨b, o, none⟩ = w1.cell? ⟨b, o, none⟩) ∧ w1.heap.size ≤ (X.setCell p u).heap.size ∧ Hid (Below w1.heap.size w1 (X.setCell p u)) :=
  keepF (h.2.2.out.setCell hp u)
/-- A new block with a prefix. -/
def NewPfx (Y : World) (p : PV) (v : Value) (wc : World) : Prop :=
  ∃ b, v = .pointer (some ⟨b, 0, none⟩) ∧ b < wc.heap.size ∧ Blk wc b 51 #[.bool p.six, .int .u64 p.hi, .int .u64 p.lo, .int .i64 p.n] ∧ Below Y.heap.size Y wc
theorem newPfx_A {Y w3 : World} {six : Bool} {hi lo n : Int} (h : Below Y.heap.size Y w3) :
    NewPfx Y ⟨six, hi, lo, n⟩ (.pointer (some ⟨w3.heap.size, 0, none⟩)) (w3.alloc (.cells #[.bool six, .int .u64 hi, .int .u64 lo, .int .i64 n] 51)) :=
  ⟨_, rfl, by simp, Blk.new _ _ _, h.alloc h.size _⟩
theorem newPfx_B {Y Q w3 : World} {six : Bool} {hi lo n : Int} (hb : Below Q.heap.size Q w3) (hQ : Q.heap = (Y.alloc (.cells #[.bool false, .int .u64 0, .int .u64 0, .int .i64 0] 51)).heap) (h : Below Y.heap.size Y w3) :
    NewPfx Y ⟨six, hi, lo, n⟩ (.pointer (some ⟨Y.heap.size, 0, none⟩)) ((((w3.setCell ⟨Y.heap.size, 0, none⟩ (.bool six)).setCell ⟨Y.heap.size, 1, none⟩ (.int .u64 hi)).setCell ⟨Y.heap.size, 2, none⟩ (.int .u64 lo)).setCell ⟨Y.heap.size, 3, none⟩ (.int .i64 n)) := by
  have hs := hb.size
  rw [hQ] at hs
  simp at hs
  refine ⟨Y.heap.size, rfl, by simp; omega, ((((?_ : Blk w3 Y.heap.size _ #[.bool false, .int .u64 0, .int .u64 0, .int .i64 0]).set_ 0 _).set_ 1 _).set_ 2 _).set_ 3 _, ?_⟩
  · have := hb.block Y.heap.size (by rw [hQ]; simp)
    rw [hQ] at this
    exact this.trans (Blk.new Y _ _)
  · exact (((h.setCell (by simp) _).setCell (by simp) _).setCell (by simp) _).setCell (by simp) _
/-- A new node, and a block that leads to it. -/
def NewKid (wc : World) (G1 : Nat) (cs : Value → Array Value) (p : PV) (hop : Int) (wx : World) : Prop :=
  ∃ G2, wc.heap.size < G2 ∧ ¬ G1 = G2 ∧ Blk wx G2 235 (nodeCs p hop (.pointer none) (.pointer none)) ∧ Blk wx G1 235 (cs (.pointer (some ⟨G2, 0, none⟩))) ∧ Below wc.heap.size wc wx
theorem forkZ {wc Q w5 : World} {F : Array Value} (hb : Below Q.heap.size Q w5) (hQ : Q.heap = (wc.alloc (.cells F 235)).heap) (h : Below wc.heap.size wc w5) (i : Nat) (u : Value) :
    Blk (w5.setCell ⟨wc.heap.size, i, none⟩ u) wc.heap.size 235 (F.setIfInBounds i u) ∧ Below wc.heap.size wc (w5.setCell ⟨wc.heap.size, i, none⟩ u) := by
  refine ⟨Blk.set_ ?_ i u, h.setCell (Nat.le_refl _) _⟩
  have := hb.block wc.heap.size (by rw [hQ]; simp)
  rw [hQ] at this
  exact this.trans (Blk.new wc _ _)
theorem newKid_A {wc Z Q w6 : World} {G1 i : Nat} {F : Array Value} {p : PV} {hop : Int} {six : Bool} {hi lo n : Int} (hb : Below Q.heap.size Q w6) (hQ : Q.heap = Z.heap) (hp : p = ⟨six, hi, lo, n⟩) (hG : wc.heap.size = G1) (hz : wc.heap.size < Z.heap.size) (hk : Blk Z G1 235 F) (hb2 : Below wc.heap.size wc w6) :
    NewKid wc G1 (fun v => F.setIfInBounds i v) p hop ((w6.setCell ⟨G1, i, none⟩ (.pointer (some ⟨w6.heap.size, 0, none⟩))).alloc (.cells #[.bool six, .int .u64 hi, .int .u64 lo, .int .i64 n, .int .i64 hop, .pointer none, .pointer none] 235)) := by
  subst hp
  subst hG
  have hs := hb.size
  rw [hQ] at hs
  have k2 := hb.block wc.heap.size (by rw [hQ]; omega)
  rw [hQ] at k2
  have kn := Blk.new (w6.setCell ⟨wc.heap.size, i, none⟩ (.pointer (some ⟨w6.heap.size, 0, none⟩))) 235 #[.bool six, .int .u64 hi, .int .u64 lo, .int .i64 n, .int .i64 hop, .pointer none, .pointer none]
  rw [World.size_setCell] at kn
  refine ⟨w6.heap.size, by omega, by omega, kn, Blk.alloc (Blk.set_ (k2.trans hk) i _) _, ?_⟩
  exact (hb2.setCell (Nat.le_refl _) _).alloc (by simp; exact hb2.size) _
theorem newKid_B {wc Z Q w6 : World} {G1 i : Nat} {F : Array Value} {p : PV} {hop : Int} {six : Bool} {hi lo n : Int} (hb : Below Q.heap.size Q w6) (hQ : Q.heap = (Z.alloc (.cells #[.bool six, .int .u64 hi, .int .u64 lo, .int .i64 n, .int .i64 hop, .pointer none, .pointer none] 235)).heap) (hp : p = ⟨six, hi, lo, n⟩) (hG : wc.heap.size = G1) (hz : wc.heap.size < Z.heap.size) (hk : Blk Z G1 235 F) (_hwz : Below wc.heap.size wc Z) (hb2 : Below wc.heap.size wc w6) :
    NewKid wc G1 (fun v => F.setIfInBounds i v) p hop (w6.setCell ⟨G1, i, none⟩ (.pointer (some ⟨Z.heap.size, 0, none⟩))) := by
  subst hp
  subst hG
  have k1 := hb.block Z.heap.size (by rw [hQ]; simp)
  have k2 := hb.block wc.heap.size (by rw [hQ]; simp; omega)
  rw [hQ] at k1 k2
  refine ⟨Z.heap.size, hz, by omega, Blk.far (k1.trans (Blk.new Z _ _)) (p := ⟨wc.heap.size, i, none⟩) (by show ¬ _ = _; simp; omega) _, Blk.set_ (k2.trans (hk.alloc _)) i _, hb2.setCell (Nat.le_refl _) _⟩
theorem tab_fork {Y W : World} {B tb : Nat} {R : Bool → Tr} {c : Int} {s : Bool} {C : Ctx} {cur extra : Tr} {G1 : Nat} {p1 : PV} {h1 b : Int} (hT : Tab Y B tb R c) (hR : R s = C.plug cur) (hb : Below Y.heap.size Y W) (hG : Y.heap.size ≤ G1)
    (hblk : Blk W G1 235 (if b = 0 then nodeCs p1 h1 cur.ptr extra.ptr else nodeCs p1 h1 extra.ptr cur.ptr)) (hx : extra.Lies W B) (hxb : ∀ g ∈ extra.blocks, Y.heap.size ≤ g ∧ ¬ g = G1) (hxn : extra.blocks.Nodup) :
    Tab (W.setCell (C.slot tb s) (.pointer (some ⟨G1, 0, none⟩))) B tb (upd R s (C.plug (node2 G1 p1 h1 b cur extra))) c := by
  obtain ⟨n1, n2, n3, n4, n5, n6, n7, n8⟩ := nodup_parts hT hR
  have hcl := ((plug_lies C cur).1 (hR ▸ hT.lies s)).2
  have hlt := fun g hg => (hcl.lt g hg).2
  have hB := hT.base
  have htl := hT.blk.lt
  have hnotin : ∀ g, Y.heap.size ≤ g → g ∉ tabBlocks tb R := fun g hg hm => by have := (hT.lt g hm).2; omega
  have hcur := hcl.below hb
  have hptr : (node2 G1 p1 h1 b cur extra).ptr = .pointer (some ⟨G1, 0, none⟩) := by unfold node2; split <;> rfl
  rw [← hptr]
  refine Tab.store (hT.below hb) hR ?_ ?_ ?_
  · unfold node2
    by_cases h0 : b = 0
    · rw [if_pos h0] at hblk ⊢
      exact ⟨by omega, hblk, hcur, hx⟩
    · rw [if_neg h0] at hblk ⊢
      exact ⟨by omega, hblk, hx, hcur⟩
  · have hd1 : ∀ a ∈ cur.blocks, ∀ b ∈ extra.blocks, ¬ a = b := fun a ha b hb e => by subst e; have := hlt a ha; have := (hxb a hb).1; omega
    have hg1 : G1 ∉ cur.blocks := fun h => by have := hlt G1 h; omega
    have hg2 : G1 ∉ extra.blocks := fun h => (hxb G1 h).2 rfl
    unfold node2
    split
    · simp only [Tr.blocks, List.nodup_cons, List.mem_append, not_or, List.nodup_append]
      exact ⟨⟨hg1, hg2⟩, n4, hxn, hd1⟩
    · simp only [Tr.blocks, List.nodup_cons, List.mem_append, not_or, List.nodup_append]
      exact ⟨⟨hg2, hg1⟩, hxn, n4, fun a ha b hb e => hd1 b hb a ha e.symm⟩
  · intro g hg
    have : g = G1 ∨ g ∈ cur.blocks ∨ g ∈ extra.blocks := by
      unfold node2 at hg
      split at hg <;> simp only [Tr.blocks, List.mem_cons, List.mem_append] at hg
      · exact hg
      · rcases hg with h | h | h
        · exact .inl h
        · exact .inr (.inr h)
        · exact .inr (.inl h)
    rcases this with rfl | h | h
    · exact .inr (hnotin _ hG)
    · exact .inl h
    · exact .inr (hnotin _ (hxb g h).1)
theorem put_fin {W : World} {B tb : Nat} {R : Bool → Tr} {c : Int} {p : PV} {hop : Int} {C : Ctx} {cur : Tr} (G1 G2 : Nat) (hR : R p.six = C.plug cur) (hon : C.OnPath p)
    (ht : Tab W B tb (upd R p.six (C.plug (putT p hop G1 G2 cur))) (if hopAt cur p = 0 then c + 1 else c)) :
    ∃ G1 G2, Tab W B tb (upd R p.six (putT p hop G1 G2 (R p.six))) (if hopAt (R p.six) p = 0 then c + 1 else c) := by
  refine ⟨G1, G2, ?_⟩
  rw [hR, plug_hop C cur hon, plug_put C cur hon]
  exact ht

set_option maxRecDepth 100000 in
set_option maxHeartbeats 12800000 in
theorem put_any {w : World} {B tb : Nat} {R : Bool → Tr} {c : Int} (h : Tab w B tb R c) (p : PV) (hp : p.Ok) (hI : ∀ s, Inv s (fun _ => True) (R s)) (hop : Int) (hc : 0 ≤ c ∧ c ≤ 1000000) :
    Calls Try.prog 143 #[.pointer (some ⟨tb, 0, none⟩), p.val, .int .i64 hop] w (PutPost w B tb R c p hop) := by
  have HT := Lib.hid h
  have HP := Lib.hid hp
  have HI := Lib.hid hI
  have CP := Lib.hid (fun (Y : World) (hb : Below w.heap.size w Y) => place_any (h.below hb) p hp hI)
  obtain ⟨six, hi, lo, n⟩ := p
  clear h hp hI
  unfold PV.val at CP ⊢
  simp only at CP ⊢
  go_enter Try.func143, Try.ntmps143
  go_wp2_with fail
  refine (CP.out _ ((Below.refl _ _).alloc (Nat.le_refl _) _)).mono ?_
  rintro e X ⟨C, cur, hR, hon, hst, rfl, hb⟩
  obtain ⟨HBX, hsx, hbx⟩ := box1 (cs := [.bool six, .int .u64 hi, .int .u64 lo, .int .i64 n]) hb
  have e0 := hbx 0 _ rfl
  have e1 := hbx 1 _ rfl
  have e2 := hbx 2 _ rfl
  have e3 := hbx 3 _ rfl
  have hTX := HT.out.below HBX
  have hsl := hTX.slot hR
  have HTX := Lib.hid hTX
  have HB := Lib.hid HBX
  have HR := Lib.hid hR
  have HON := Lib.hid hon
  have hct : X.cell? ⟨tb, 2, none⟩ = some (.int .i64 c) := hTX.blk.cell 2
  have hcf : X.frozen? ⟨tb, 2, none⟩ = false := hTX.blk.frozen 2
  have htb := hTX.blk.lt
  obtain ⟨hs1, hs2, hs3⟩ := hsl
  have hslt := (hTX.lt _ hs3).2
  have HS3 := Lib.hid hs3
  have hne : ¬ Ctx.slot tb six C = ⟨tb, 2, none⟩ := by
    intro hx
    cases C with
    | top => simp only [Ctx.slot, slotOf] at hx; cases six <;> simp at hx
    | left C g q h r => simp [Ctx.slot] at hx
    | right C g q h r => simp [Ctx.slot] at hx
  have HNE := Lib.hid hne
  have hne' : ¬ (⟨tb, 2, none⟩ : Addr) = Ctx.slot tb six C := fun hx => HNE.out hx.symm
  obtain ⟨sl, hsl⟩ : ∃ sl, Ctx.slot tb six C = sl := ⟨_, rfl⟩
  have HSL := Lib.hid hsl
  rw [hsl] at hs1 hs2 hslt hne hne' ⊢
  clear hsl hb hbx HBX hTX hR hon hs3
  have hph := Lib.hid (plug_hop (p := ⟨six, hi, lo, n⟩) C cur HON.out)
  have HBA : ∀ o, Hid (Below X.heap.size X (X.alloc o)) := fun o => (Below.refl _ _).alloc (Nat.le_refl _) o
  have hsf : ∀ o, (X.alloc o).frozen? sl = false := fun o => ((HBA o).out.frozen hslt).trans hs2
  cases cur with
  | nil =>
    change X.cell? sl = some (.pointer none) at hs1
    go_wp2
    go_ret
    refine ⟨ret_int (by rw [HR.out, hph.out]; rfl), put_fin X.heap.size 0 HR.out HON.out ?_, ((((Kept.of_below HB.out).alloc _).setCell (.inl (by rw [← HSL.out]; exact HS3.out)) _).setCell (.inl (by simp [tabBlocks])) _)⟩
    rw [show hopAt Tr.nil ⟨six, hi, lo, n⟩ = 0 from rfl, if_pos rfl, ← HSL.out]
    refine Tab.count (Tab.store (HTX.out.below (HBA _).out) HR.out (new := .node X.heap.size ⟨six, hi, lo, n⟩ hop .nil .nil) ⟨?_, Blk.new _ _ _, trivial, trivial⟩ (by simp [Tr.blocks]) (fun g hg => ?_)) _
    · have := HTX.out.base; omega
    · simp [Tr.blocks] at hg
      subst hg
      exact .inr (fun hx => by have := (HTX.out.lt _ hx).2; omega)
  | node g q h l r =>
    obtain ⟨hblk, hgm⟩ := HTX.out.node HR.out
    obtain ⟨U', hiv⟩ := inv_plug C (.node g q h l r) _ (by rw [← HR.out]; exact HI.out six)
    obtain ⟨hq, hq6, _, hh, _, _⟩ := hiv
    have HQ := Lib.hid hq
    have n0 := hblk.cell 0
    have n1 := hblk.cell 1
    have n2 := hblk.cell 2
    have n3 := hblk.cell 3
    have n4 := hblk.cell 4
    have f4 := hblk.frozen 4
    have hgl := hblk.lt
    have HGM := Lib.hid hgm
    obtain ⟨qs, qh, ql, qn⟩ := q
    simp only [nodeCs] at n0 n1 n2 n3 n4 hq6
    simp at n0 n1 n2 n3 n4
    subst hq6
    change X.cell? sl = some (.pointer (some ⟨g, 0, none⟩)) at hs1
    clear hgm hblk hq
    have HEQ := Lib.hid (fun w => eqPV ⟨qs, qh, ql, qn⟩ ⟨qs, hi, lo, n⟩ w)
    by_cases he : (⟨qs, qh, ql, qn⟩ : PV) = ⟨qs, hi, lo, n⟩
    · injection he with _ a1 a2 a3
      subst a1
      subst a2
      subst a3
      have hop0 : Hid (hopAt (.node g ⟨qs, qh, ql, qn⟩ h l r) ⟨qs, qh, ql, qn⟩ = h) := by show _ = _; unfold hopAt; rw [if_pos rfl]
      have hput : Hid (putT ⟨qs, qh, ql, qn⟩ hop 0 0 (.node g ⟨qs, qh, ql, qn⟩ h l r) = .node g ⟨qs, qh, ql, qn⟩ hop l r) := by show _ = _; unfold putT; rw [if_pos rfl]
      by_cases h0 : h = 0
      · subst h0
        go_wp2
        go_quiet (fail)
        go_wp2
        go_ret
        refine ⟨ret_int (by rw [HR.out, hph.out, hop0.out]), put_fin 0 0 HR.out HON.out ?_, ((Kept.of_below (below_drewN HB.out _)).setCell (.inl HGM.out) _).setCell (.inl (by simp [tabBlocks])) _⟩
        rw [hop0.out, if_pos rfl, hput.out]
        exact (Tab.hop (HTX.out.below (below_drewN (Below.refl _ _) _)) HR.out hop).count _
      · have hn0 : (h == 0) = false := by simpa using h0
        have H0 := Lib.hid h0
        clear h0
        go_wp2
        go_quiet (fail)
        go_wp2
        go_ret
        refine ⟨ret_int (by rw [HR.out, hph.out, hop0.out]), put_fin 0 0 HR.out HON.out ?_, (Kept.of_below (below_drewN HB.out _)).setCell (.inl HGM.out) _⟩
        rw [hop0.out, if_neg H0.out, hput.out]
        exact Tab.hop (HTX.out.below (below_drewN (Below.refl _ _) _)) HR.out hop
    · have hov : PV.over ⟨qs, qh, ql, qn⟩ ⟨qs, hi, lo, n⟩ = false := by
        rcases hst with hx | hx
        · exact absurd hx he
        · exact hx
      have HNQ := Lib.hid he
      rw [decide_eq_false he] at HEQ
      unfold PV.val at HEQ
      simp only at HEQ
      have HEQ' := HEQ.out
      clear he hst
      have HCF := Lib.hid (com_facts HQ.out HP.out rfl)
      have HCL := Lib.hid (com_lt HQ.out HP.out rfl hov)
      have HCB := Lib.hid (com_bit HQ.out HP.out rfl)
      have HOV := Lib.hid hov
      have CC : Hid (∀ Z, Calls Try.prog 191 #[.agg #[.bool qs, .int .u64 qh, .int .u64 ql, .int .i64 qn], .agg #[.bool qs, .int .u64 hi, .int .u64 lo, .int .i64 n]] Z fun e w' => e = .returned (.tuple #[(PV.com ⟨qs, qh, ql, qn⟩ ⟨qs, hi, lo, n⟩).val, .int .i64 0]) ∧ Below Z.heap.size Z w') :=
        fun Z => common_ok qs qh ql qn hi lo n Z HQ.out HP.out (bothE_of HQ.out HP.out)
      have h6 : (PV.com ⟨qs, qh, ql, qn⟩ ⟨qs, hi, lo, n⟩).six = qs := rfl
      obtain ⟨cm, hcm⟩ : ∃ cm, PV.com ⟨qs, qh, ql, qn⟩ ⟨qs, hi, lo, n⟩ = cm := ⟨_, rfl⟩
      have HCM := Lib.hid hcm
      rw [hcm] at HCF HCL HCB CC h6
      obtain ⟨cs, ch, cl, cn⟩ := cm
      simp only at h6
      subst h6
      unfold PV.val at CC
      simp only at CC
      clear hcm hov
      go_wp2
      go_quiet (fail)
      obtain ⟨Y, hY⟩ : ∃ Y, X.drewN nq = Y := ⟨_, rfl⟩
      have HXY : Hid (Below X.heap.size X Y) := by show Below _ _ _; rw [← hY]; exact below_drewN (Below.refl _ _) _
      rw [hY]
      have HTY := Lib.hid (HTX.out.below HXY.out)
      have sy := HXY.out.size
      obtain ⟨cy, fy⟩ := bcell HXY.out
      have hs1y : Y.cell? sl = some (.pointer (some ⟨g, 0, none⟩)) := (HXY.out.cell hslt).trans hs1
      have hs2y : Y.frozen? sl = false := (HXY.out.frozen hslt).trans hs2
      have e0y := (cy w.heap.size 0 hsx).trans e0
      have e1y := (cy w.heap.size 1 hsx).trans e1
      have e2y := (cy w.heap.size 2 hsx).trans e2
      have e3y := (cy w.heap.size 3 hsx).trans e3
      have n0y := (cy g 0 hgl).trans n0
      have n1y := (cy g 1 hgl).trans n1
      have n2y := (cy g 2 hgl).trans n2
      have n3y := (cy g 3 hgl).trans n3
      have hcty := (cy tb 2 htb).trans hct
      have hcfy := (fy tb 2 htb).trans hcf
      have hsyw : w.heap.size < Y.heap.size := by omega
      have hsyg : g < Y.heap.size := by omega
      have hsyt : tb < Y.heap.size := by omega
      have hsys : sl.block < Y.heap.size := by omega
      have HBY := Lib.hid (below_step HB.out HXY.out)
      clear hY cy fy hs1 hs2 e0 e1 e2 e3 n0 n1 n2 n3 n4 f4 hct hcf hsf HBA hslt htb hsx hgl
      go_upto_region 3 with fail
      go_cut [10] (fun v wx => NewPfx Y ⟨cs, ch, cl, cn⟩ v wx)
      case first =>
        go_region_held3 (fun w' => (∀ b o, b < Y.heap.size → w'.cell? ⟨b, o, none⟩ = Y.cell? ⟨b, o, none⟩) ∧ Y.heap.size ≤ w'.heap.size ∧ Hid (Below Y.heap.size  Y w'))
          ((first | assumption | exact keep0 _ | (refine keepF ?_; (repeat' first | with_reducible exact HB3.out | with_reducible exact Below.refl _ _ | with_reducible refine Below.drew ?_ | with_reducible refine below_drewN ?_ _ | with_reducible refine Below.setCell ?_ ?_ _ | with_reducible refine Below.alloc ?_ ?_ _ | exact HB3.out.size | (simp; done) | (simp; have := HB3.out.size; omega) | (simp; omega)); done)))
          (first | (go_at_call 191; refine (CC.out _).mono ?_; rintro e w3 ⟨rfl, hb3⟩; obtain ⟨fc3, ff3⟩ := bcell hb3; have hz3 := hb3.size; have HB3 : Hid (Below Y.heap.size Y w3) := (keepBelow (by assumption)).trans (hb3.mono (keepSize (by assumption)))))
        all_goals
          go_wp2_with fail
          go_meet
          first
            | with_reducible exact newPfx_A HB3.out
            | exact newPfx_B hb3 rfl HB3.out
      case rest =>
        generalize wc = V at *
        obtain ⟨b1, rfl, hb1, hbk, hbw⟩ := hcut
        have c0 := hbk.cell 0
        have c1 := hbk.cell 1
        have c2 := hbk.cell 2
        have c3 := hbk.cell 3
        simp at c0 c1 c2 c3
        obtain ⟨cy, fy⟩ := bcell hbw
        have HTW := Lib.hid (HTY.out.below hbw)
        have HBW := Lib.hid hbw
        have sw := hbw.size
        have e0w := (cy w.heap.size 0 hsyw).trans e0y
        have e1w := (cy w.heap.size 1 hsyw).trans e1y
        have e2w := (cy w.heap.size 2 hsyw).trans e2y
        have e3w := (cy w.heap.size 3 hsyw).trans e3y
        have n0w := (cy g 0 hsyg).trans n0y
        have n1w := (cy g 1 hsyg).trans n1y
        have n2w := (cy g 2 hsyg).trans n2y
        have n3w := (cy g 3 hsyg).trans n3y
        have hctw := (cy tb 2 hsyt).trans hcty
        have hcfw := (fy tb 2 hsyt).trans hcfy
        have hs1w : V.cell? sl = some (.pointer (some ⟨g, 0, none⟩)) := (HBW.out.cell hsys).trans hs1y
        have hs2w : V.frozen? sl = false := (HBW.out.frozen hsys).trans hs2y
        have hwb : w.heap.size < V.heap.size := by omega
        have hwg : g < V.heap.size := by omega
        have hwt : tb < V.heap.size := by omega
        have hws : sl.block < V.heap.size := by omega
        have hrc := ok_n HCF.out.1
        try simp only at hrc
        have hcl := HCL.out
        try simp only at hcl
        have hcqn := (ok_n HQ.out).2
        try simp only at hcqn
        have rq1 := Pfx.rhi HQ.out
        have rq2 := Pfx.rlo HQ.out
        have rp1 := Pfx.rhi HP.out
        have rp2 := Pfx.rlo HP.out
        try simp only at rq1 rq2 rp1 rp2
        have CB0 := Lib.hid (fun w => at_any cs qh ql cn w rq1 rq2 hrc.1 (by omega))
        have CP0 := Lib.hid (fun w (h : cn < n) => at_any cs hi lo cn w rp1 rp2 hrc.1 (by have := (ok_n HP.out).2; simp only at this; omega))
        have HQB : Hid (PV.bit ⟨cs, qh, ql, qn⟩ cn = bitI cs qh ql cn) := Eq.refl _
        obtain ⟨bv, hbv⟩ : ∃ bv, bitI cs qh ql cn = bv := ⟨_, rfl⟩
        have hb01 : bv = 0 ∨ bv = 1 := by rw [← hbv]; exact PV.bit01 ⟨cs, qh, ql, qn⟩ cn
        rw [hbv] at CB0 HQB
        clear hbv hbk hbw cy fy rq1 rq2 rp1 rp2 hcqn hcl sw e0y e1y e2y e3y n0y n1y n2y n3y hcty hcfy hs1y hs2y hsyw hsyg hsyt hsys
        rcases hb01 with rfl | rfl
        · have CB := Lib.hid CB0.out
          have HZ : Hid (Below V.heap.size V V) := Below.refl _ _
          go_wp2
          go_region_held3 (fun w' => (∀ b o, b < V.heap.size → w'.cell? ⟨b, o, none⟩ = V.cell? ⟨b, o, none⟩) ∧ V.heap.size ≤ w'.heap.size ∧ Hid (Below V.heap.size V w'))
            ((first | assumption | exact keep0 _ | (refine keepF ?_; (repeat' first | with_reducible exact HB5.out | with_reducible exact HZ.out | with_reducible exact Below.refl _ _ | with_reducible refine Below.drew ?_ | with_reducible refine below_drewN ?_ _ | with_reducible refine Below.setCell ?_ ?_ _ | with_reducible refine Below.alloc ?_ ?_ _ | exact HB5.out.size | exact HZ.out.size | (simp; done) | (simp; have := HB5.out.size; omega) | (simp; have := HZ.out.size; omega) | (simp; omega)); done)))
            (first | (go_at_call 175; refine (CB.out _).mono ?_; rintro e w5 ⟨rfl, hb5⟩; obtain ⟨fc5, ff5⟩ := bcell hb5; have hz5 := hb5.size; have HB5 : Hid (Below V.heap.size V w5) := (keepBelow (by assumption)).trans (hb5.mono (keepSize (by assumption)))))
          obtain ⟨Z, hZ⟩ : ∃ Z, w5.setCell ⟨V.heap.size, 5, none⟩ (.pointer (some ⟨g, 0, none⟩)) = Z := ⟨_, rfl⟩
          have hfz := forkZ hb5 rfl HB5.out 5 (.pointer (some ⟨g, 0, none⟩))
          rw [hZ] at hfz
          rw [hZ]
          have hsz5 : V.heap.size < Z.heap.size := hfz.1.lt
          clear hZ fc5 ff5 hz5 hb5 HB5 HZ
          obtain ⟨hkz, hbz⟩ := hfz
          have hkz : Blk Z V.heap.size 235 (nodeCs ⟨cs, ch, cl, cn⟩ 0 (.pointer (some ⟨g, 0, none⟩)) (.pointer none)) := hkz
          have HKZ := Lib.hid hkz
          have HZ := Lib.hid hbz
          obtain ⟨cz, fz⟩ := bcell hbz
          have c0z := (cz b1 0 hb1).trans c0
          have c1z := (cz b1 1 hb1).trans c1
          have c2z := (cz b1 2 hb1).trans c2
          have c3z := (cz b1 3 hb1).trans c3
          have e0z := (cz w.heap.size 0 hwb).trans e0w
          have e1z := (cz w.heap.size 1 hwb).trans e1w
          have e2z := (cz w.heap.size 2 hwb).trans e2w
          have e3z := (cz w.heap.size 3 hwb).trans e3w
          have hctz := (cz tb 2 hwt).trans hctw
          have hcfz := (fz tb 2 hwt).trans hcfw
          have hs1z : Z.cell? sl = some (.pointer (some ⟨g, 0, none⟩)) := (HZ.out.cell hws).trans hs1w
          have hs2z : Z.frozen? sl = false := (HZ.out.frozen hws).trans hs2w
          have kz4 := hkz.cell 4
          have kf4 := hkz.frozen 4
          simp [nodeCs] at kz4
          have hsl4 : ¬ sl = ⟨V.heap.size, 4, none⟩ := fun hx => by rw [hx] at hws; simp at hws
          have hsl4' : ¬ (⟨V.heap.size, 4, none⟩ : Addr) = sl := fun hx => hsl4 hx.symm
          have hzz : Hid (Below Y.heap.size Y Z) := HBW.out.trans (HZ.out.mono HBW.out.size)
          clear cz fz hkz hbz
          have HCP := fun w => eqPV ⟨cs, ch, cl, cn⟩ ⟨cs, hi, lo, n⟩ w
          by_cases hcp : (⟨cs, ch, cl, cn⟩ : PV) = ⟨cs, hi, lo, n⟩
          · have hput : Hid (putT ⟨cs, hi, lo, n⟩ hop V.heap.size 0 (.node g ⟨cs, qh, ql, qn⟩ h l r) = node2 V.heap.size ⟨cs, hi, lo, n⟩ hop 0 (.node g ⟨cs, qh, ql, qn⟩ h l r) .nil) := by
              show _ = _
              unfold putT
              rw [if_neg HNQ.out, if_pos HOV.out]
              unfold forkT
              rw [HCM.out, if_pos hcp, HQB.out]
            have hop0 : Hid (hopAt (.node g ⟨cs, qh, ql, qn⟩ h l r) ⟨cs, hi, lo, n⟩ = 0) := by show _ = _; unfold hopAt; rw [if_neg HNQ.out, if_pos HOV.out]
            rw [decide_eq_true hcp] at HCP
            injection hcp with _ a1 a2 a3
            subst a1
            subst a2
            subst a3
            unfold PV.val at HCP
            simp only at HCP
            go_wp2
            go_ret
            refine ⟨ret_int (by rw [HR.out, hph.out, hop0.out]), put_fin V.heap.size 0 HR.out HON.out ?_, ((((Kept.of_below (HBY.out.trans (hzz.out.mono HBY.out.size))).setCell (.inr (by show _ ≤ _; simp; omega)) _).setCell (.inl (by rw [← HSL.out]; exact HS3.out)) _).setCell (.inl (by simp [tabBlocks])) _)⟩
            rw [hop0.out, if_pos rfl, hput.out, ← HSL.out]
            exact (tab_fork (extra := Tr.nil) HTY.out HR.out (hzz.out.setCell (HBW.out.size) _) HBW.out.size (HKZ.out.set_ 4 _) trivial (by simp [Tr.blocks]) (by simp [Tr.blocks])).count _
          · have hltn : cn < n := by
              rcases Int.lt_or_le cn n with hx | hx
              · exact hx
              · exact absurd (over_eq HCF.out.1 HP.out HCF.out.2.2.2.2.1 hx) hcp
            have hpb : Hid (bitI cs hi lo cn = 1) := by
              have h1 := HCB.out HCL.out hltn
              have h2 := PV.bit01 ⟨cs, hi, lo, n⟩ cn
              have h3 := HQB.out
              try simp only at h1
              show PV.bit ⟨cs, hi, lo, n⟩ cn = 1
              omega
            have CPB := Lib.hid (fun w => CP0.out w hltn)
            rw [hpb.out] at CPB
            rw [decide_eq_false hcp] at HCP
            have HNC := Lib.hid hcp
            unfold PV.val at HCP
            simp only at HCP
            clear hcp
            have kz6 := HKZ.out.cell 6
            have kf6 := HKZ.out.frozen 6
            simp [nodeCs] at kz6
            go_upto_region 8 with fail
            go_cut [60] (fun _ wx => NewKid V V.heap.size (fun v => (nodeCs ⟨cs, ch, cl, cn⟩ 0 (.pointer (some ⟨g, 0, none⟩)) (.pointer none)).setIfInBounds 6 v) ⟨cs, hi, lo, n⟩ hop wx)
            case first =>
              go_region_held3 (fun w' => (∀ b o, b < V.heap.size → w'.cell? ⟨b, o, none⟩ = V.cell? ⟨b, o, none⟩) ∧ V.heap.size ≤ w'.heap.size ∧ Hid (Below V.heap.size V w'))
                ((first | assumption | exact keep0 _ | (refine keepF ?_; (repeat' first | with_reducible exact HB6.out | with_reducible exact HZ.out | with_reducible exact Below.refl _ _ | with_reducible refine Below.drew ?_ | with_reducible refine below_drewN ?_ _ | with_reducible refine Below.setCell ?_ ?_ _ | with_reducible refine Below.alloc ?_ ?_ _ | exact HB6.out.size | exact HZ.out.size | (simp; done) | (simp; have := HB6.out.size; omega) | (simp; have := HZ.out.size; omega) | (simp; omega)); done)))
                (first | (go_at_call 175; refine (CPB.out _).mono ?_; rintro e w6 ⟨rfl, hb6⟩; obtain ⟨fc6, ff6⟩ := bcell hb6; have hz6 := hb6.size; have hg6 : V.heap.size < w6.heap.size := Nat.lt_of_lt_of_le hsz5 (Nat.le_trans (by simp) hb6.size); have hg7 : ¬ V.heap.size = w6.heap.size := Nat.ne_of_lt hg6; have hg8 : ¬ w6.heap.size = V.heap.size := fun hx => hg7 hx.symm; have kz7 : w6.cell? ⟨V.heap.size, 6, none⟩ = some (.pointer none) := (fc6 _ _ (Nat.lt_of_lt_of_le hsz5 (by simp))).trans (by first | exact kz6 | exact (((Below.refl Z.heap.size Z).alloc (Nat.le_refl _) _).cell (p := ⟨V.heap.size, 6, none⟩) hsz5).trans kz6); have kf7 : w6.frozen? ⟨V.heap.size, 6, none⟩ = false := (ff6 _ _ (Nat.lt_of_lt_of_le hsz5 (by simp))).trans (by first | exact kf6 | exact (((Below.refl Z.heap.size Z).alloc (Nat.le_refl _) _).frozen (p := ⟨V.heap.size, 6, none⟩) hsz5).trans kf6); have HB6 : Hid (Below V.heap.size V w6) := (keepBelow (by assumption)).trans (hb6.mono (keepSize (by assumption)))))
              all_goals
                go_wp2_with fail
                go_meet
                first
                  | ((with_reducible refine newKid_B hb6 ?_ rfl rfl hsz5 HKZ.out HZ.out HB6.out); rfl)
                  | ((with_reducible refine newKid_A hb6 ?_ rfl rfl hsz5 HKZ.out HB6.out); rfl)
            case rest =>
              obtain ⟨G2, hg2, hg12, hk2, hk1, hbx⟩ := hcut
              have HK2 := Lib.hid hk2
              have HK1 := Lib.hid hk1
              have HX := Lib.hid hbx
              obtain ⟨cx, fx⟩ := bcell hbx
              have hctx := (cx tb 2 hwt).trans hctw
              have hcfx := (fx tb 2 hwt).trans hcfw
              have hs1x : wc.cell? sl = some (.pointer (some ⟨g, 0, none⟩)) := (HX.out.cell hws).trans hs1w
              have hs2x : wc.frozen? sl = false := (HX.out.frozen hws).trans hs2w
              have hput : Hid (putT ⟨cs, hi, lo, n⟩ hop V.heap.size G2 (.node g ⟨cs, qh, ql, qn⟩ h l r) = node2 V.heap.size ⟨cs, ch, cl, cn⟩ 0 0 (.node g ⟨cs, qh, ql, qn⟩ h l r) (.node G2 ⟨cs, hi, lo, n⟩ hop .nil .nil)) := by
                show _ = _
                unfold putT
                rw [if_neg HNQ.out, if_pos HOV.out]
                unfold forkT
                rw [HCM.out, if_neg HNC.out, HQB.out]
              have hop0 : Hid (hopAt (.node g ⟨cs, qh, ql, qn⟩ h l r) ⟨cs, hi, lo, n⟩ = 0) := by show _ = _; unfold hopAt; rw [if_neg HNQ.out, if_pos HOV.out]
              have hyx : Hid (Below Y.heap.size Y wc) := HBW.out.trans (HX.out.mono HBW.out.size)
              have hbs := HBW.out.size
              clear hk2 hk1 hbx cx fx hs1z hs2z hctz hcfz hs1w hs2w hctw hcfw
              go_wp2
              go_ret
              refine ⟨ret_int (by rw [HR.out, hph.out, hop0.out]), put_fin V.heap.size G2 HR.out HON.out ?_, (((Kept.of_below (HBY.out.trans (hyx.out.mono HBY.out.size))).setCell (.inl (by rw [← HSL.out]; exact HS3.out)) _).setCell (.inl (by simp [tabBlocks])) _)⟩
              rw [hop0.out, if_pos rfl, hput.out, ← HSL.out]
              refine Tab.count (tab_fork (p1 := ⟨cs, ch, cl, cn⟩) (h1 := 0) (b := 0) (extra := Tr.node G2 ⟨cs, hi, lo, n⟩ hop .nil .nil) HTY.out HR.out hyx.out HBW.out.size HK1.out ⟨?_, HK2.out, trivial, trivial⟩ (fun g' hg' => ?_) (by simp [Tr.blocks])) _
              · have := HTY.out.base
                have := HTY.out.blk.lt
                omega
              · simp [Tr.blocks] at hg'
                subst hg'
                exact ⟨by omega, fun hx => hg12 hx.symm⟩
        · have CB := Lib.hid CB0.out
          have HZ : Hid (Below V.heap.size V V) := Below.refl _ _
          go_wp2
          go_region_held3 (fun w' => (∀ b o, b < V.heap.size → w'.cell? ⟨b, o, none⟩ = V.cell? ⟨b, o, none⟩) ∧ V.heap.size ≤ w'.heap.size ∧ Hid (Below V.heap.size V w'))
            ((first | assumption | exact keep0 _ | (refine keepF ?_; (repeat' first | with_reducible exact HB5.out | with_reducible exact HZ.out | with_reducible exact Below.refl _ _ | with_reducible refine Below.drew ?_ | with_reducible refine below_drewN ?_ _ | with_reducible refine Below.setCell ?_ ?_ _ | with_reducible refine Below.alloc ?_ ?_ _ | exact HB5.out.size | exact HZ.out.size | (simp; done) | (simp; have := HB5.out.size; omega) | (simp; have := HZ.out.size; omega) | (simp; omega)); done)))
            (first | (go_at_call 175; refine (CB.out _).mono ?_; rintro e w5 ⟨rfl, hb5⟩; obtain ⟨fc5, ff5⟩ := bcell hb5; have hz5 := hb5.size; have HB5 : Hid (Below V.heap.size V w5) := (keepBelow (by assumption)).trans (hb5.mono (keepSize (by assumption)))))
          obtain ⟨Z, hZ⟩ : ∃ Z, w5.setCell ⟨V.heap.size, 6, none⟩ (.pointer (some ⟨g, 0, none⟩)) = Z := ⟨_, rfl⟩
          have hfz := forkZ hb5 rfl HB5.out 6 (.pointer (some ⟨g, 0, none⟩))
          rw [hZ] at hfz
          rw [hZ]
          have hsz5 : V.heap.size < Z.heap.size := hfz.1.lt
          clear hZ fc5 ff5 hz5 hb5 HB5 HZ
          obtain ⟨hkz, hbz⟩ := hfz
          have hkz : Blk Z V.heap.size 235 (nodeCs ⟨cs, ch, cl, cn⟩ 0 (.pointer none) (.pointer (some ⟨g, 0, none⟩))) := hkz
          have HKZ := Lib.hid hkz
          have HZ := Lib.hid hbz
          obtain ⟨cz, fz⟩ := bcell hbz
          have c0z := (cz b1 0 hb1).trans c0
          have c1z := (cz b1 1 hb1).trans c1
          have c2z := (cz b1 2 hb1).trans c2
          have c3z := (cz b1 3 hb1).trans c3
          have e0z := (cz w.heap.size 0 hwb).trans e0w
          have e1z := (cz w.heap.size 1 hwb).trans e1w
          have e2z := (cz w.heap.size 2 hwb).trans e2w
          have e3z := (cz w.heap.size 3 hwb).trans e3w
          have hctz := (cz tb 2 hwt).trans hctw
          have hcfz := (fz tb 2 hwt).trans hcfw
          have hs1z : Z.cell? sl = some (.pointer (some ⟨g, 0, none⟩)) := (HZ.out.cell hws).trans hs1w
          have hs2z : Z.frozen? sl = false := (HZ.out.frozen hws).trans hs2w
          have kz4 := hkz.cell 4
          have kf4 := hkz.frozen 4
          simp [nodeCs] at kz4
          have hsl4 : ¬ sl = ⟨V.heap.size, 4, none⟩ := fun hx => by rw [hx] at hws; simp at hws
          have hsl4' : ¬ (⟨V.heap.size, 4, none⟩ : Addr) = sl := fun hx => hsl4 hx.symm
          have hzz : Hid (Below Y.heap.size Y Z) := HBW.out.trans (HZ.out.mono HBW.out.size)
          clear cz fz hkz hbz
          have HCP := fun w => eqPV ⟨cs, ch, cl, cn⟩ ⟨cs, hi, lo, n⟩ w
          by_cases hcp : (⟨cs, ch, cl, cn⟩ : PV) = ⟨cs, hi, lo, n⟩
          · have hput : Hid (putT ⟨cs, hi, lo, n⟩ hop V.heap.size 0 (.node g ⟨cs, qh, ql, qn⟩ h l r) = node2 V.heap.size ⟨cs, hi, lo, n⟩ hop 1 (.node g ⟨cs, qh, ql, qn⟩ h l r) .nil) := by
              show _ = _
              unfold putT
              rw [if_neg HNQ.out, if_pos HOV.out]
              unfold forkT
              rw [HCM.out, if_pos hcp, HQB.out]
            have hop0 : Hid (hopAt (.node g ⟨cs, qh, ql, qn⟩ h l r) ⟨cs, hi, lo, n⟩ = 0) := by show _ = _; unfold hopAt; rw [if_neg HNQ.out, if_pos HOV.out]
            rw [decide_eq_true hcp] at HCP
            injection hcp with _ a1 a2 a3
            subst a1
            subst a2
            subst a3
            unfold PV.val at HCP
            simp only at HCP
            go_wp2
            go_ret
            refine ⟨ret_int (by rw [HR.out, hph.out, hop0.out]), put_fin V.heap.size 0 HR.out HON.out ?_, ((((Kept.of_below (HBY.out.trans (hzz.out.mono HBY.out.size))).setCell (.inr (by show _ ≤ _; simp; omega)) _).setCell (.inl (by rw [← HSL.out]; exact HS3.out)) _).setCell (.inl (by simp [tabBlocks])) _)⟩
            rw [hop0.out, if_pos rfl, hput.out, ← HSL.out]
            exact (tab_fork (extra := Tr.nil) HTY.out HR.out (hzz.out.setCell (HBW.out.size) _) HBW.out.size (HKZ.out.set_ 4 _) trivial (by simp [Tr.blocks]) (by simp [Tr.blocks])).count _
          · have hltn : cn < n := by
              rcases Int.lt_or_le cn n with hx | hx
              · exact hx
              · exact absurd (over_eq HCF.out.1 HP.out HCF.out.2.2.2.2.1 hx) hcp
            have hpb : Hid (bitI cs hi lo cn = 0) := by
              have h1 := HCB.out HCL.out hltn
              have h2 := PV.bit01 ⟨cs, hi, lo, n⟩ cn
              have h3 := HQB.out
              try simp only at h1
              show PV.bit ⟨cs, hi, lo, n⟩ cn = 0
              omega
            have CPB := Lib.hid (fun w => CP0.out w hltn)
            rw [hpb.out] at CPB
            rw [decide_eq_false hcp] at HCP
            have HNC := Lib.hid hcp
            unfold PV.val at HCP
            simp only at HCP
            clear hcp
            have kz6 := HKZ.out.cell 5
            have kf6 := HKZ.out.frozen 5
            simp [nodeCs] at kz6
            go_upto_region 8 with fail
            go_cut [60] (fun _ wx => NewKid V V.heap.size (fun v => (nodeCs ⟨cs, ch, cl, cn⟩ 0 (.pointer none) (.pointer (some ⟨g, 0, none⟩))).setIfInBounds 5 v) ⟨cs, hi, lo, n⟩ hop wx)
            case first =>
              go_region_held3 (fun w' => (∀ b o, b < V.heap.size → w'.cell? ⟨b, o, none⟩ = V.cell? ⟨b, o, none⟩) ∧ V.heap.size ≤ w'.heap.size ∧ Hid (Below V.heap.size V w'))
                ((first | assumption | exact keep0 _ | (refine keepF ?_; (repeat' first | with_reducible exact HB6.out | with_reducible exact HZ.out | with_reducible exact Below.refl _ _ | with_reducible refine Below.drew ?_ | with_reducible refine below_drewN ?_ _ | with_reducible refine Below.setCell ?_ ?_ _ | with_reducible refine Below.alloc ?_ ?_ _ | exact HB6.out.size | exact HZ.out.size | (simp; done) | (simp; have := HB6.out.size; omega) | (simp; have := HZ.out.size; omega) | (simp; omega)); done)))
                (first | (go_at_call 175; refine (CPB.out _).mono ?_; rintro e w6 ⟨rfl, hb6⟩; obtain ⟨fc6, ff6⟩ := bcell hb6; have hz6 := hb6.size; have hg6 : V.heap.size < w6.heap.size := Nat.lt_of_lt_of_le hsz5 (Nat.le_trans (by simp) hb6.size); have hg7 : ¬ V.heap.size = w6.heap.size := Nat.ne_of_lt hg6; have hg8 : ¬ w6.heap.size = V.heap.size := fun hx => hg7 hx.symm; have kz7 : w6.cell? ⟨V.heap.size, 5, none⟩ = some (.pointer none) := (fc6 _ _ (Nat.lt_of_lt_of_le hsz5 (by simp))).trans (by first | exact kz6 | exact (((Below.refl Z.heap.size Z).alloc (Nat.le_refl _) _).cell (p := ⟨V.heap.size, 5, none⟩) hsz5).trans kz6); have kf7 : w6.frozen? ⟨V.heap.size, 5, none⟩ = false := (ff6 _ _ (Nat.lt_of_lt_of_le hsz5 (by simp))).trans (by first | exact kf6 | exact (((Below.refl Z.heap.size Z).alloc (Nat.le_refl _) _).frozen (p := ⟨V.heap.size, 5, none⟩) hsz5).trans kf6); have HB6 : Hid (Below V.heap.size V w6) := (keepBelow (by assumption)).trans (hb6.mono (keepSize (by assumption)))))
              all_goals
                go_wp2_with fail
                go_meet
                first
                  | ((with_reducible refine newKid_B hb6 ?_ rfl rfl hsz5 HKZ.out HZ.out HB6.out); rfl)
                  | ((with_reducible refine newKid_A hb6 ?_ rfl rfl hsz5 HKZ.out HB6.out); rfl)
            case rest =>
              obtain ⟨G2, hg2, hg12, hk2, hk1, hbx⟩ := hcut
              have HK2 := Lib.hid hk2
              have HK1 := Lib.hid hk1
              have HX := Lib.hid hbx
              obtain ⟨cx, fx⟩ := bcell hbx
              have hctx := (cx tb 2 hwt).trans hctw
              have hcfx := (fx tb 2 hwt).trans hcfw
              have hs1x : wc.cell? sl = some (.pointer (some ⟨g, 0, none⟩)) := (HX.out.cell hws).trans hs1w
              have hs2x : wc.frozen? sl = false := (HX.out.frozen hws).trans hs2w
              have hput : Hid (putT ⟨cs, hi, lo, n⟩ hop V.heap.size G2 (.node g ⟨cs, qh, ql, qn⟩ h l r) = node2 V.heap.size ⟨cs, ch, cl, cn⟩ 0 1 (.node g ⟨cs, qh, ql, qn⟩ h l r) (.node G2 ⟨cs, hi, lo, n⟩ hop .nil .nil)) := by
                show _ = _
                unfold putT
                rw [if_neg HNQ.out, if_pos HOV.out]
                unfold forkT
                rw [HCM.out, if_neg HNC.out, HQB.out]
              have hop0 : Hid (hopAt (.node g ⟨cs, qh, ql, qn⟩ h l r) ⟨cs, hi, lo, n⟩ = 0) := by show _ = _; unfold hopAt; rw [if_neg HNQ.out, if_pos HOV.out]
              have hyx : Hid (Below Y.heap.size Y wc) := HBW.out.trans (HX.out.mono HBW.out.size)
              have hbs := HBW.out.size
              clear hk2 hk1 hbx cx fx hs1z hs2z hctz hcfz hs1w hs2w hctw hcfw
              go_wp2
              go_ret
              refine ⟨ret_int (by rw [HR.out, hph.out, hop0.out]), put_fin V.heap.size G2 HR.out HON.out ?_, (((Kept.of_below (HBY.out.trans (hyx.out.mono HBY.out.size))).setCell (.inl (by rw [← HSL.out]; exact HS3.out)) _).setCell (.inl (by simp [tabBlocks])) _)⟩
              rw [hop0.out, if_pos rfl, hput.out, ← HSL.out]
              refine Tab.count (tab_fork (p1 := ⟨cs, ch, cl, cn⟩) (h1 := 0) (b := 1) (extra := Tr.node G2 ⟨cs, hi, lo, n⟩ hop .nil .nil) HTY.out HR.out hyx.out HBW.out.size HK1.out ⟨?_, HK2.out, trivial, trivial⟩ (fun g' hg' => ?_) (by simp [Tr.blocks])) _
              · have := HTY.out.base
                have := HTY.out.blk.lt
                omega
              · simp [Tr.blocks] at hg'
                subst hg'
                exact ⟨by omega, fun hx => hg12 hx.symm⟩

end Go.Proofs.Ytnflaaoapmhjgaa

namespace Go.Proofs.Ytnflaaoapmhjgaa
open Go.ChangeShapes Go.WideShapes Go.ChangeAt Go.RowKit

def ActV.cells (a : ActV) : List Value := [.int .i64 a.kind, .bool a.p.six, .int .u64 a.p.hi, .int .u64 a.p.lo, .int .i64 a.p.n, .int .i64 a.hop, .bool a.a.six, .int .u64 a.a.hi, .int .u64 a.a.lo]
theorem ActV.cells_length (a : ActV) : a.cells.length = 9 := rfl

set_option maxRecDepth 100000 in
set_option maxHeartbeats 1600000 in
theorem qfault_any (kd : Int) (six : Bool) (hi lo n hop : Int) (six2 : Bool) (hi2 lo2 : Int) (w : World) (h1 : 0 ≤ hi ∧ hi < 18446744073709551616) (h2 : 0 ≤ lo ∧ lo < 18446744073709551616) :
    Calls Try.prog 189 #[.agg #[.int .i64 kd, .bool six, .int .u64 hi, .int .u64 lo, .int .i64 n, .int .i64 hop, .bool six2, .int .u64 hi2, .int .u64 lo2]] w fun e w' => e = .returned (.int .i64 (faultA ⟨kd, ⟨six, hi, lo, n⟩, hop, ⟨six2, hi2, lo2⟩⟩)) ∧ Below w.heap.size w w' := by
  have CK := Lib.hid (fun w => check_any six hi lo n w h1 h2)
  have hf : faultA ⟨kd, ⟨six, hi, lo, n⟩, hop, ⟨six2, hi2, lo2⟩⟩ = if ¬ (kd = 1 ∨ kd = 2) then 3 else if ¬ chk six hi lo n = 0 then chk six hi lo n else if kd = 1 ∧ (hop < 1 ∨ 999 < hop) then 2 else 0 := rfl
  rw [hf]
  clear hf h1 h2
  obtain ⟨ck, hck⟩ : ∃ ck, chk six hi lo n = ck := ⟨_, rfl⟩
  rw [hck] at CK ⊢
  clear hck
  by_cases hk : kd = 1 ∨ kd = 2
  · rw [if_neg (fun h => h hk)]
    by_cases hc : ck = 0
    · subst hc
      rw [if_neg (by simp)]
      rcases hk with rfl | rfl
      · by_cases ha : hop < 1
        · rw [if_pos ⟨rfl, .inl ha⟩]
          have hd : decide (hop < 1) = true := by simpa using ha
          clear ha
          go_enter Try.func189, Try.ntmps189
          go_wp2_with fail
          refine (CK.out _).mono ?_
          rintro e w1 ⟨rfl, hb1⟩
          obtain ⟨fc1, ff1⟩ := bcell hb1
          have hz1 := bsize1 hb1
          have HB1 := Lib.hid (balloc1 hb1)
          clear hb1
          go_wp2
          go_ret
          exact ⟨rfl, HB1.out⟩
        · have hd : decide (hop < 1) = false := by simpa using ha
          by_cases hb : 999 < hop
          · rw [if_pos ⟨rfl, .inr hb⟩]
            have hd2 : decide (999 < hop) = true := by simpa using hb
            clear ha hb
            go_enter Try.func189, Try.ntmps189
            go_wp2_with fail
            refine (CK.out _).mono ?_
            rintro e w1 ⟨rfl, hb1⟩
            obtain ⟨fc1, ff1⟩ := bcell hb1
            have hz1 := bsize1 hb1
            have HB1 := Lib.hid (balloc1 hb1)
            clear hb1
            go_wp2
            go_ret
            exact ⟨rfl, HB1.out⟩
          · rw [if_neg (by rintro ⟨_, h | h⟩; exact ha h; exact hb h)]
            have hd2 : decide (999 < hop) = false := by simpa using hb
            clear ha hb
            go_enter Try.func189, Try.ntmps189
            go_wp2_with fail
            refine (CK.out _).mono ?_
            rintro e w1 ⟨rfl, hb1⟩
            obtain ⟨fc1, ff1⟩ := bcell hb1
            have hz1 := bsize1 hb1
            have HB1 := Lib.hid (balloc1 hb1)
            clear hb1
            go_wp2
            go_ret
            exact ⟨rfl, HB1.out⟩
      · rw [if_neg (by rintro ⟨h, _⟩; omega)]
        go_enter Try.func189, Try.ntmps189
        go_wp2_with fail
        refine (CK.out _).mono ?_
        rintro e w1 ⟨rfl, hb1⟩
        obtain ⟨fc1, ff1⟩ := bcell hb1
        have hz1 := bsize1 hb1
        have HB1 := Lib.hid (balloc1 hb1)
        clear hb1
        go_wp2
        go_ret
        exact ⟨rfl, HB1.out⟩
    · rw [if_pos hc]
      have hne : (ck != 0) = true := by simpa using hc
      clear hc
      rcases hk with rfl | rfl
      all_goals
        go_enter Try.func189, Try.ntmps189
        go_wp2_with fail
        refine (CK.out _).mono ?_
        rintro e w1 ⟨rfl, hb1⟩
        obtain ⟨fc1, ff1⟩ := bcell hb1
        have hz1 := bsize1 hb1
        have HB1 := Lib.hid (balloc1 hb1)
        clear hb1
        go_wp2
        go_ret
        exact ⟨rfl, HB1.out⟩
  · rw [if_pos hk]
    have hd1 : (kd != 1) = true := by simpa using fun h => hk (.inl h)
    have hd2 : (kd != 2) = true := by simpa using fun h => hk (.inr h)
    clear hk
    go_enter Try.func189, Try.ntmps189
    go_wp2
    go_ret
    exact ⟨rfl, (Below.refl _ _).alloc (Nat.le_refl _) _⟩

/-- A queue's cells. -/
def qCells (r : List ActV) (f m : Nat) : Array Value := (r.flatMap ActV.cells ++ [Value.int .i64 (f : Int), Value.int .i64 (m : Int)]).toArray
structure QAt (w : World) (Q : Nat) (r : List ActV) (f m : Nat) : Prop where
  blk : Blk w Q 120 (qCells r f m)
  len : r.length = 8
  f8 : f < 8
  m8 : m ≤ 8
theorem flat_len (r : List ActV) : (r.flatMap ActV.cells).length = r.length * 9 := by
  induction r with
  | nil => rfl
  | cons x l ih => rw [List.flatMap_cons, List.length_append, ih, ActV.cells_length, List.length_cons]; omega
theorem QAt.first {w : World} {Q : Nat} {r : List ActV} {f m : Nat} (h : QAt w Q r f m) : w.cell? ⟨Q, 72, none⟩ = some (.int .i64 f) ∧ w.cell? ⟨Q, 73, none⟩ = some (.int .i64 m) := by
  have hl := flat_len r
  rw [h.len] at hl
  refine ⟨?_, ?_⟩
  · rw [h.blk.cell]; unfold qCells
    rw [List.getElem?_toArray, List.getElem?_append_right (by omega), hl]; rfl
  · rw [h.blk.cell]; unfold qCells
    rw [List.getElem?_toArray, List.getElem?_append_right (by omega), hl]; rfl
theorem QAt.cell {w : World} {Q : Nat} {r : List ActV} {f m : Nat} (h : QAt w Q r f m) {k j : Nat} {x : ActV} {u : Value} (hk : r[k]? = some x) (hj : x.cells[j]? = some u) : w.cell? ⟨Q, k * 9 + j, none⟩ = some u := by
  have h1 := flat_at ActV.cells_length r k x j u hk hj
  rw [h.blk.cell]; unfold qCells
  rw [List.getElem?_toArray, List.getElem?_append_left (List.getElem?_eq_some_iff.1 h1).1]
  exact h1

set_option maxRecDepth 100000 in
set_option maxHeartbeats 1600000 in
theorem at_is {w : World} {Q : Nat} {r : List ActV} {f m : Nat} (h : QAt w Q r f m) (i : Nat) (hi : i ≤ 8) :
    Calls Try.prog 190 #[.pointer (some ⟨Q, 0, none⟩), .int .i64 i] w fun e w' => e = .returned (.pointer (some ⟨Q, (f + i) % 8 * 9, none⟩)) ∧ ∃ k, w' = w.drewN k := by
  obtain ⟨q72, q73⟩ := h.first
  have hf := h.f8
  have w1 : IntKind.i64.wrap ((f : Int) + (i : Int)) = ((f + i : Nat) : Int) := by rw [IntWalk.i64_in _ (by omega)]; omega
  clear h q73
  go_enter Try.func190, Try.ntmps190
  go_wp2
  go_quiet (fail)
  go_wp2
  go_ret
  exact ⟨rfl, _, rfl⟩

theorem QAt.keep {w w' : World} {Q : Nat} {r : List ActV} {f m : Nat} (h : QAt w Q r f m) (hk : w'.heap[Q]? = w.heap[Q]?) : QAt w' Q r f m := ⟨hk.trans h.blk, h.len, h.f8, h.m8⟩
theorem QAt.below {w w' : World} {Q : Nat} {r : List ActV} {f m : Nat} (h : QAt w Q r f m) (hb : Below w.heap.size w w') : QAt w' Q r f m := h.keep (hb.block Q h.blk.lt)
/-! A run of stores. -/
def setsW (w : World) (Q : Nat) : Nat → List Value → World
  | _, [] => w
  | s, u :: us => setsW (w.setCell ⟨Q, s, none⟩ u) Q (s + 1) us
def setsA (cs : Array Value) : Nat → List Value → Array Value
  | _, [] => cs
  | s, u :: us => setsA (cs.setIfInBounds s u) (s + 1) us
def setsL (xs : List Value) : Nat → List Value → List Value
  | _, [] => xs
  | s, u :: us => setsL (xs.set s u) (s + 1) us
theorem Blk.sets {t : TypeId} {Q : Nat} : ∀ (us : List Value) (s : Nat) {w : World} {cs : Array Value}, Blk w Q t cs → Blk (setsW w Q s us) Q t (setsA cs s us)
  | [], _, _, _, h => h
  | u :: us, s, _, _, h => Blk.sets us (s + 1) (h.set_ s u)
theorem setsA_list : ∀ (us : List Value) (s : Nat) (xs : List Value), setsA xs.toArray s us = (setsL xs s us).toArray
  | [], _, _ => rfl
  | u :: us, s, xs => by
    show setsA (xs.toArray.setIfInBounds s u) (s + 1) us = _
    rw [List.setIfInBounds_toArray, setsA_list us]
    rfl
theorem setsL_mid : ∀ (us mid pre post : List Value) (s : Nat), mid.length = us.length → s = pre.length → setsL (pre ++ (mid ++ post)) s us = pre ++ (us ++ post)
  | [], mid, pre, post, s, h, _ => by
    have : mid = [] := List.eq_nil_of_length_eq_zero h
    subst this
    rfl
  | u :: us, [], pre, post, s, h, _ => by cases h
  | u :: us, m :: mid, pre, post, s, h, hs => by
    show setsL ((pre ++ (m :: mid ++ post)).set s u) (s + 1) us = _
    rw [hs, List.set_append_right _ _ (Nat.le_refl _), Nat.sub_self]
    have e : pre ++ ((m :: mid ++ post).set 0 u) = (pre ++ [u]) ++ (mid ++ post) := by simp
    rw [e, setsL_mid us mid (pre ++ [u]) post _ (by simpa using h) (by simp)]
    simp
theorem far_sets {w : World} {Q b : Nat} (hb : b ≠ Q) : ∀ (us : List Value) (s : Nat) (w : World), (setsW w Q s us).heap[b]? = w.heap[b]?
  | [], _, _ => rfl
  | u :: us, s, w => (far_sets (w := w) hb us (s + 1) _).trans (Below.heap_setCell w ⟨Q, s, none⟩ u b hb)
/-- An act is stored in the ring. -/
theorem QAt.store {w : World} {Q : Nat} {r : List ActV} {f m k : Nat} (h : QAt w Q r f m) (hk : k < 8) (a : ActV) : QAt (setsW w Q (k * 9) a.cells) Q (r.set k a) f m := by
  have hkl : k < r.length := by rw [h.len]; exact hk
  refine ⟨?_, by rw [List.length_set]; exact h.len, h.f8, h.m8⟩
  have hb := h.blk.sets a.cells (k * 9)
  have e1 : r = r.take k ++ r[k] :: r.drop (k + 1) := by simp
  have e2 : r.set k a = r.take k ++ a :: r.drop (k + 1) := by rw [List.set_eq_take_append_cons_drop, if_pos hkl]
  have hl : ((r.take k).flatMap ActV.cells).length = k * 9 := by
    have hmin : min k r.length = k := by omega
    rw [flat_len, List.length_take, hmin]
  have e : qCells (r.set k a) f m = setsA (qCells r f m) (k * 9) a.cells := by
    unfold qCells
    rw [setsA_list, e2]
    refine congrArg List.toArray ?_
    conv => rhs; rw [e1]
    rw [List.flatMap_append, List.flatMap_cons, List.flatMap_append, List.flatMap_cons]
    simp only [List.append_assoc]
    rw [setsL_mid a.cells r[k].cells _ _ _ rfl hl.symm]
  rw [e]
  exact hb
theorem QAt.count {w : World} {Q : Nat} {r : List ActV} {f m m' : Nat} (h : QAt w Q r f m) (hm : m' ≤ 8) : QAt (w.setCell ⟨Q, 73, none⟩ (.int .i64 (m' : Int))) Q r f m' := by
  have hl := flat_len r
  rw [h.len] at hl
  refine ⟨?_, h.len, h.f8, hm⟩
  have e : qCells r f m' = (qCells r f m).setIfInBounds 73 (.int .i64 (m' : Int)) := by
    unfold qCells
    rw [List.setIfInBounds_toArray, List.set_append_right _ _ (by omega), hl]
    rfl
  rw [e]
  exact h.blk.set_ 73 _
theorem QAt.front {w : World} {Q : Nat} {r : List ActV} {f f' m : Nat} (h : QAt w Q r f m) (hf : f' < 8) : QAt (w.setCell ⟨Q, 72, none⟩ (.int .i64 (f' : Int))) Q r f' m := by
  have hl := flat_len r
  rw [h.len] at hl
  refine ⟨?_, h.len, hf, h.m8⟩
  have e : qCells r f' m = (qCells r f m).setIfInBounds 72 (.int .i64 (f' : Int)) := by
    unfold qCells
    rw [List.setIfInBounds_toArray, List.set_append_right _ _ (by omega), hl]
    rfl
  rw [e]
  exact h.blk.set_ 72 _

end Go.Proofs.Ytnflaaoapmhjgaa

namespace Go.Proofs.Ytnflaaoapmhjgaa
open Go.ChangeShapes Go.WideShapes Go.ChangeAt Go.RowKit

def Pushed (w : World) (Q : Nat) (q : List ActV) (f : Nat) (j : JobV) (e : Ending) (w' : World) : Prop :=
  ∃ (r' : List ActV) (m' : Nat), e = .returned (.tuple #[.bool (jobD q j).merged, .int .i64 (jobD q j).code]) ∧ QAt w' Q r' f m' ∧ ringL r' f m' = jobQ q j ∧ (jobD q j).acts = [] ∧ Kept [Q] w w'

theorem QAt.nine {w : World} {Q : Nat} {r : List ActV} {f m : Nat} (h : QAt w Q r f m) {k : Nat} {x : ActV} (hk : r[k]? = some x) {p six hi lo n hop} (hp : x.p = p) (h1 : p = ⟨six, hi, lo, n⟩) (h2 : x.hop = hop) :
    w.cell? ⟨Q, k * 9, none⟩ = some (.int .i64 x.kind) ∧ w.cell? ⟨Q, k * 9 + 1, none⟩ = some (.bool six) ∧ w.cell? ⟨Q, k * 9 + 1 + 1, none⟩ = some (.int .u64 hi) ∧ w.cell? ⟨Q, k * 9 + 1 + 2, none⟩ = some (.int .u64 lo) ∧ w.cell? ⟨Q, k * 9 + 1 + 3, none⟩ = some (.int .i64 n) ∧
      w.cell? ⟨Q, k * 9 + 5, none⟩ = some (.int .i64 hop) ∧ w.cell? ⟨Q, k * 9 + 6, none⟩ = some (.bool x.a.six) ∧ w.cell? ⟨Q, k * 9 + 6 + 1, none⟩ = some (.int .u64 x.a.hi) ∧ w.cell? ⟨Q, k * 9 + 6 + 2, none⟩ = some (.int .u64 x.a.lo) := by
  subst hp h2
  exact ⟨h.cell hk (j := 0) rfl, h.cell hk (j := 1) (by simp [ActV.cells, h1]), h.cell hk (j := 2) (by simp [ActV.cells, h1]), h.cell hk (j := 3) (by simp [ActV.cells, h1]), h.cell hk (j := 4) (by simp [ActV.cells, h1]), h.cell hk (j := 5) rfl, h.cell hk (j := 6) rfl, h.cell hk (j := 7) rfl, h.cell hk (j := 8) rfl⟩
theorem QAt.warm {w : World} {Q : Nat} {r : List ActV} {f m : Nat} (h : QAt w Q r f m) (b : Nat) :
    w.frozen? ⟨Q, b, none⟩ = false ∧ w.frozen? ⟨Q, b + 1, none⟩ = false ∧ w.frozen? ⟨Q, b + 1 + 1, none⟩ = false ∧ w.frozen? ⟨Q, b + 1 + 2, none⟩ = false ∧ w.frozen? ⟨Q, b + 1 + 3, none⟩ = false ∧ w.frozen? ⟨Q, b + 5, none⟩ = false ∧ w.frozen? ⟨Q, b + 6, none⟩ = false ∧ w.frozen? ⟨Q, b + 6 + 1, none⟩ = false ∧ w.frozen? ⟨Q, b + 6 + 2, none⟩ = false :=
  ⟨h.blk.frozen _, h.blk.frozen _, h.blk.frozen _, h.blk.frozen _, h.blk.frozen _, h.blk.frozen _, h.blk.frozen _, h.blk.frozen _, h.blk.frozen _⟩
theorem c73_drew {w : World} {a : Addr} {v : Value} (h : w.cell? a = some v) : w.drew.cell? a = some v := h
theorem c73_drewN {w : World} {a : Addr} {v : Value} (h : w.cell? a = some v) (n : Nat) : (w.drewN n).cell? a = some v := h
theorem c73_set {w : World} {Q : Nat} {o : Nat} {u v : Value} (h : w.cell? ⟨Q, 73, none⟩ = some v) (ho : o ≠ 73) : (w.setCell ⟨Q, o, none⟩ u).cell? ⟨Q, 73, none⟩ = some v := (World.cell?_setCell_other w _ _ _ (fun e => ho (congrArg Addr.off e))).trans h
theorem QAt.store9 {w w' : World} {Q : Nat} {r : List ActV} {f m k : Nat} (h : QAt w Q r f m) (he : w'.heap = w.heap) (hk : k < 8) (a : ActV) : QAt (((((((((w'.setCell ⟨Q, k * 9, none⟩ (.int .i64 a.kind)).setCell ⟨Q, k * 9 + 1, none⟩ (.bool a.p.six)).setCell ⟨Q, k * 9 + 2, none⟩ (.int .u64 a.p.hi)).setCell ⟨Q, k * 9 + 3, none⟩ (.int .u64 a.p.lo)).setCell ⟨Q, k * 9 + 4, none⟩ (.int .i64 a.p.n)).setCell ⟨Q, k * 9 + 5, none⟩ (.int .i64 a.hop)).setCell ⟨Q, k * 9 + 6, none⟩ (.bool a.a.six)).setCell ⟨Q, k * 9 + 7, none⟩ (.int .u64 a.a.hi)).setCell ⟨Q, k * 9 + 8, none⟩ (.int .u64 a.a.lo)) Q (r.set k a) f m := (h.keep (w' := w') (by rw [he])).store hk a
theorem Kept.nine {w w' : World} {Q : Nat} (K0 : Kept [Q] w w') (b : Nat) (u0 u1 u2 u3 u4 u5 u6 u7 u8 : Value) : Kept [Q] w (((((((((w'.setCell ⟨Q, b, none⟩ u0).setCell ⟨Q, b + 1, none⟩ u1).setCell ⟨Q, b + 2, none⟩ u2).setCell ⟨Q, b + 3, none⟩ u3).setCell ⟨Q, b + 4, none⟩ u4).setCell ⟨Q, b + 5, none⟩ u5).setCell ⟨Q, b + 6, none⟩ u6).setCell ⟨Q, b + 7, none⟩ u7).setCell ⟨Q, b + 8, none⟩ u8) :=
  have hQ : Q ∈ [Q] := by simp
  Kept.setCell (Kept.setCell (Kept.setCell (Kept.setCell (Kept.setCell (Kept.setCell (Kept.setCell (Kept.setCell (Kept.setCell K0 (.inl hQ) _) (.inl hQ) _) (.inl hQ) _) (.inl hQ) _) (.inl hQ) _) (.inl hQ) _) (.inl hQ) _) (.inl hQ) _) (.inl hQ) _
theorem Kept.same {S : List Nat} {w w1 w2 : World} (h : Kept S w w1) (d : Nat) (he : w2 = w1.drewN d) : Kept S w w2 := by subst he; exact h.then_below (below_drewN (Below.refl _ _) d)
theorem cell_sets {w : World} {Q b o s : Nat} {us : List Value} (hb : b ≠ Q) : (setsW w Q s us).cell? ⟨b, o, none⟩ = w.cell? ⟨b, o, none⟩ := World.cell?_of_block (far_sets (w := w) hb us s w)
set_option maxRecDepth 100000 in
set_option maxHeartbeats 3200000 in
theorem push_any {w : World} {Q : Nat} {r : List ActV} {f m : Nat} (h : QAt w Q r f m) (hg : GoodQ (ringL r f m)) (kd : Int) (six : Bool) (hi lo n hop : Int) (six2 : Bool) (hi2 lo2 nn : Int) (h1 : 0 ≤ hi ∧ hi < 18446744073709551616) (h2 : 0 ≤ lo ∧ lo < 18446744073709551616) :
    Calls Try.prog 135 #[.pointer (some ⟨Q, 0, none⟩), .agg #[.int .i64 kd, .bool six, .int .u64 hi, .int .u64 lo, .int .i64 n, .int .i64 hop, .bool six2, .int .u64 hi2, .int .u64 lo2]] w (Pushed w Q (ringL r f m) f ⟨1, ⟨kd, ⟨six, hi, lo, n⟩, hop, ⟨six2, hi2, lo2⟩⟩, nn⟩) := by
  have CF := Lib.hid (fun w => qfault_any kd six hi lo n hop six2 hi2 lo2 w h1 h2)
  have H := Lib.hid h
  have HG := Lib.hid hg
  obtain ⟨a, ha⟩ : ∃ a : ActV, (⟨kd, ⟨six, hi, lo, n⟩, hop, ⟨six2, hi2, lo2⟩⟩ : ActV) = a := ⟨_, rfl⟩
  have HA := Lib.hid ha
  rw [ha] at CF ⊢
  obtain ⟨E, hE⟩ : ∃ E, faultA a = E := ⟨_, rfl⟩
  have HE := Lib.hid hE
  rw [hE] at CF
  have hm8 := h.m8
  have hql := h.blk.lt
  have hneq : w.heap.size ≠ Q := by omega
  clear h hg ha hE h1 h2
  obtain ⟨post, hpost⟩ : ∃ post, Pushed w Q (ringL r f m) f ⟨1, a, nn⟩ = post := ⟨_, rfl⟩
  have HP := Lib.hid hpost
  rw [hpost]
  clear hpost
  by_cases hz : E = 0
  · subst hz
    go_enter Try.func135, Try.ntmps135
    go_wp2_with fail
    refine (CF.out _).mono ?_
    rintro e X ⟨rfl, hb⟩
    have hsx := bsize1 hb
    have HBX := Lib.hid (balloc1 hb)
    have hk := (Blk.new w 117 #[.int .i64 kd, .bool six, .int .u64 hi, .int .u64 lo, .int .i64 n, .int .i64 hop, .bool six2, .int .u64 hi2, .int .u64 lo2]).below hb (by simp)
    have HKB := Lib.hid hk
    have HQX := Lib.hid (H.out.below HBX.out)
    have b0 := hk.cell 0
    have b1 := hk.cell 1
    have b2 := hk.cell 2
    have b3 := hk.cell 3
    have b4 := hk.cell 4
    have b5 := hk.cell 5
    have b6 := hk.cell 6
    have b7 := hk.cell 7
    have b8 := hk.cell 8
    simp at b0 b1 b2 b3 b4 b5 b6 b7 b8
    obtain ⟨q72, q73⟩ := HQX.out.first
    clear hb hk
    go_wp2
    go_loopw [17, 7] (fun i _ wr => ∃ k : Nat, k ≤ m ∧ i = .int .i64 k ∧ (∀ (j : Nat) (x : ActV), j < k → (ringL r f m)[j]? = some x → ¬ x.p = a.p) ∧ Below X.heap.size X wr) (fun i _ _ => m - (intOf i).toNat)
    case atStart => exact ⟨0, by omega, rfl, fun j x hj => by omega, Below.refl _ _⟩
    case round =>
      obtain ⟨k, hkm, rfl, hno, hbo⟩ := hrel
      obtain ⟨wo, rfl⟩ : ∃ wo : World, wo = wr := ⟨_, rfl⟩
      have HNO := Lib.hid hno
      have HBO := Lib.hid hbo
      have HQO := Lib.hid (HQX.out.below hbo)
      have hk := HKB.out.below hbo hsx
      have HKO := Lib.hid hk
      have b0 := hk.cell 0
      have b1 := hk.cell 1
      have b2 := hk.cell 2
      have b3 := hk.cell 3
      have b4 := hk.cell 4
      have b5 := hk.cell 5
      have b6 := hk.cell 6
      have b7 := hk.cell 7
      have b8 := hk.cell 8
      simp at b0 b1 b2 b3 b4 b5 b6 b7 b8
      obtain ⟨q72, q73⟩ := HQO.out.first
      have hwo := hk.lt
      clear hno hbo hk
      by_cases hlt : k < m
      · have hgx := ring_get r f hlt
        obtain ⟨x, hx⟩ : ∃ x, r[(f + k) % 8]? = some x := ⟨r[(f + k) % 8]'(by rw [HQO.out.len]; omega), List.getElem?_eq_getElem _⟩
        rw [hx, Option.getD_some] at hgx
        have HGX := Lib.hid hgx
        obtain ⟨⟨xs, xh, xl, xn⟩, hxp⟩ : ∃ p : PV, x.p = p := ⟨_, rfl⟩
        obtain ⟨x0, x1, x2, x3, x4, x5, x6, x7, x8⟩ := HQO.out.nine hx hxp rfl rfl
        obtain ⟨z0, z1, z2, z3, z4, z5, z6, z7, z8⟩ := HQO.out.warm ((f + k) % 8 * 9)
        have CAW : Hid (∀ W : World, W.heap = wo.heap → Calls Try.prog 190 #[.pointer (some ⟨Q, 0, none⟩), .int .i64 k] W fun e w' => e = .returned (.pointer (some ⟨Q, (f + k) % 8 * 9, none⟩)) ∧ ∃ d, w' = W.drewN d) := fun W hW => at_is (HQO.out.keep (by rw [hW])) k (by omega)
        have CA := Lib.hid (fun d => at_is (w := wo.drewN d) (r := r) (f := f) (m := m) (Q := Q) (HQO.out.keep rfl) k (by omega))
        have HEQ := fun w => eqPV ⟨xs, xh, xl, xn⟩ ⟨six, hi, lo, n⟩ w
        unfold PV.val at HEQ
        simp only at HEQ
        have HXP := Lib.hid hxp
        clear hgx hx hxp
        by_cases he : (⟨xs, xh, xl, xn⟩ : PV) = ⟨six, hi, lo, n⟩
        · rw [decide_eq_true he] at HEQ
          have HEE := Lib.hid he
          clear he
          go_wp2
          go_quiet ((go_at_call 190; exact Calls.quiet_of (CA.out _)))
          go_wp2
          have keepF : ∀ {W : World}, Blk W w.heap.size 117 #[.int .i64 kd, .bool six, .int .u64 hi, .int .u64 lo, .int .i64 n, .int .i64 hop, .bool six2, .int .u64 hi2, .int .u64 lo2] → W.cell? ⟨w.heap.size, 0, none⟩ = some (.int .i64 kd) ∧ W.cell? ⟨w.heap.size, 1, none⟩ = some (.bool six) ∧ W.cell? ⟨w.heap.size, 2, none⟩ = some (.int .u64 hi) ∧ W.cell? ⟨w.heap.size, 3, none⟩ = some (.int .u64 lo) ∧ W.cell? ⟨w.heap.size, 4, none⟩ = some (.int .i64 n) ∧ W.cell? ⟨w.heap.size, 5, none⟩ = some (.int .i64 hop) ∧ W.cell? ⟨w.heap.size, 6, none⟩ = some (.bool six2) ∧ W.cell? ⟨w.heap.size, 7, none⟩ = some (.int .u64 hi2) ∧ W.cell? ⟨w.heap.size, 8, none⟩ = some (.int .u64 lo2) := fun h => ⟨h.cell 0, h.cell 1, h.cell 2, h.cell 3, h.cell 4, h.cell 5, h.cell 6, h.cell 7, h.cell 8⟩
          go_region_held3 (fun w' => w'.cell? ⟨w.heap.size, 0, none⟩ = some (.int .i64 kd) ∧ w'.cell? ⟨w.heap.size, 1, none⟩ = some (.bool six) ∧ w'.cell? ⟨w.heap.size, 2, none⟩ = some (.int .u64 hi) ∧ w'.cell? ⟨w.heap.size, 3, none⟩ = some (.int .u64 lo) ∧ w'.cell? ⟨w.heap.size, 4, none⟩ = some (.int .i64 n) ∧ w'.cell? ⟨w.heap.size, 5, none⟩ = some (.int .i64 hop) ∧ w'.cell? ⟨w.heap.size, 6, none⟩ = some (.bool six2) ∧ w'.cell? ⟨w.heap.size, 7, none⟩ = some (.int .u64 hi2) ∧ w'.cell? ⟨w.heap.size, 8, none⟩ = some (.int .u64 lo2))
            ((first | with_reducible assumption | (with_reducible refine keepF ?_; (repeat' first | with_reducible exact HKO.out | with_reducible exact Q73.out | with_reducible refine Blk.drew ?_ | with_reducible refine Blk.drewN ?_ _ | with_reducible refine Blk.far ?_ hneq _ | with_reducible refine c73_drew ?_ | with_reducible refine c73_drewN ?_ _ | with_reducible refine c73_set ?_ (by omega)))))
            (first | (go_at_call 190; refine (CAW.out _ (by rfl)).mono ?_; rintro e w7 ⟨rfl, d7, rfl⟩))
          go_wp2
          rw [← HP.out]
          have hap : x.p = a.p := by rw [HXP.out, HEE.out, ← HA.out]
          have hd : jobD (ringL r f m) ⟨1, a, nn⟩ = ⟨0, true, []⟩ := by unfold jobD; rw [if_pos rfl, if_neg (by simp [HE.out]), if_pos (has_at HGX.out hap)]
          have hq : jobQ (ringL r f m) ⟨1, a, nn⟩ = ringL (r.set ((f + k) % 8) a) f m := by unfold jobQ; rw [if_pos rfl, if_neg (by simp [HE.out]), if_pos (has_at HGX.out hap), put_at HG.out.1 HGX.out hap, ring_set HQO.out.len f hlt HQO.out.m8]
          refine ⟨r.set ((f + k) % 8) ⟨kd, ⟨six, hi, lo, n⟩, hop, ⟨six2, hi2, lo2⟩⟩, m, by rw [hd]; rfl, HQO.out.store9 (by rfl) (by omega) ⟨kd, ⟨six, hi, lo, n⟩, hop, ⟨six2, hi2, lo2⟩⟩, ?_, by rw [hd], ?_⟩
          · rw [hq, ← HA.out]
          · exact ((Kept.of_below (below_step HBX.out HBO.out)).same _ (by rfl)).nine _ _ _ _ _ _ _ _ _ _
        · rw [decide_eq_false he] at HEQ
          have HEE := Lib.hid he
          clear he
          go_wp2
          go_quiet ((go_at_call 190; exact Calls.quiet_of (CA.out _)))
          go_wp2
          go_roundw
          case rel =>
            refine ⟨k + 1, by omega, by go_num, fun j y hj hy => ?_, below_drewN HBO.out _⟩
            by_cases hjk : j < k
            · exact HNO.out j y hjk hy
            · obtain rfl : j = k := by omega
              rw [HGX.out] at hy
              injection hy with hy
              rw [← hy, HXP.out, ← HA.out]
              exact HEE.out
          case measure => simp [intOf]; omega
      · obtain rfl : k = m := by omega
        obtain ⟨x, hx⟩ : ∃ x, r[(f + k) % 8]? = some x := ⟨r[(f + k) % 8]'(by rw [HQO.out.len]; omega), List.getElem?_eq_getElem _⟩
        obtain ⟨⟨xs, xh, xl, xn⟩, hxp⟩ : ∃ p : PV, x.p = p := ⟨_, rfl⟩
        obtain ⟨x0, x1, x2, x3, x4, x5, x6, x7, x8⟩ := HQO.out.nine hx hxp rfl rfl
        obtain ⟨z0, z1, z2, z3, z4, z5, z6, z7, z8⟩ := HQO.out.warm ((f + k) % 8 * 9)
        clear hx hxp
        have CAW : Hid (∀ W : World, W.heap = wo.heap → Calls Try.prog 190 #[.pointer (some ⟨Q, 0, none⟩), .int .i64 k] W fun e w' => e = .returned (.pointer (some ⟨Q, (f + k) % 8 * 9, none⟩)) ∧ ∃ d, w' = W.drewN d) := fun W hW => at_is (HQO.out.keep (by rw [hW])) k hm8
        have hnh : hasW (ringL r f k) a.p = false := has_none fun i x hx => HNO.out i x (by have := (List.getElem?_eq_some_iff.1 hx).1; rwa [ring_length] at this) hx
        have HNH := Lib.hid hnh
        clear hnh
        by_cases h8 : k = 8
        · have hd8 : ((k : Int) == 8) = true := by simp; omega
          have H8 := Lib.hid h8
          clear h8
          go_wp2
          rw [← HP.out]
          have hd : jobD (ringL r f k) ⟨1, a, nn⟩ = ⟨9, false, []⟩ := by unfold jobD; rw [if_pos rfl, if_neg (by simp [HE.out]), if_neg (by rw [HNH.out]; simp), if_pos (by rw [ring_length, H8.out]; exact Nat.le_refl _)]
          have hq : jobQ (ringL r f k) ⟨1, a, nn⟩ = ringL r f k := by unfold jobQ; rw [if_pos rfl, if_neg (by simp [HE.out]), if_neg (by rw [HNH.out]; simp), if_pos (by rw [ring_length, H8.out]; exact Nat.le_refl _)]
          exact ⟨r, k, by rw [hd]; rfl, HQO.out, hq.symm, by rw [hd], Kept.of_below (below_step HBX.out HBO.out)⟩
        · have hd8 : ((k : Int) == 8) = false := by simp; omega
          have wk : IntKind.i64.wrap ((k : Int) + 1) = ((k + 1 : Nat) : Int) := by rw [IntWalk.i64_in _ (by omega)]; omega
          have H8 := Lib.hid h8
          clear h8
          have keepF2 : ∀ {W : World}, Blk W w.heap.size 117 #[.int .i64 kd, .bool six, .int .u64 hi, .int .u64 lo, .int .i64 n, .int .i64 hop, .bool six2, .int .u64 hi2, .int .u64 lo2] → W.cell? ⟨Q, 73, none⟩ = some (.int .i64 k) → W.cell? ⟨w.heap.size, 0, none⟩ = some (.int .i64 kd) ∧ W.cell? ⟨w.heap.size, 1, none⟩ = some (.bool six) ∧ W.cell? ⟨w.heap.size, 2, none⟩ = some (.int .u64 hi) ∧ W.cell? ⟨w.heap.size, 3, none⟩ = some (.int .u64 lo) ∧ W.cell? ⟨w.heap.size, 4, none⟩ = some (.int .i64 n) ∧ W.cell? ⟨w.heap.size, 5, none⟩ = some (.int .i64 hop) ∧ W.cell? ⟨w.heap.size, 6, none⟩ = some (.bool six2) ∧ W.cell? ⟨w.heap.size, 7, none⟩ = some (.int .u64 hi2) ∧ W.cell? ⟨w.heap.size, 8, none⟩ = some (.int .u64 lo2) ∧ W.cell? ⟨Q, 73, none⟩ = some (.int .i64 k) := fun h h73 => ⟨h.cell 0, h.cell 1, h.cell 2, h.cell 3, h.cell 4, h.cell 5, h.cell 6, h.cell 7, h.cell 8, h73⟩
          have Q73 := Lib.hid q73
          go_upto_region 13 with fail
          go_cut [] (fun wx => QAt wx Q (r.set ((f + k) % 8) ⟨kd, ⟨six, hi, lo, n⟩, hop, ⟨six2, hi2, lo2⟩⟩) f k ∧ Kept [Q] w wx)
          case first =>
            go_region_held3 (fun w' => w'.cell? ⟨w.heap.size, 0, none⟩ = some (.int .i64 kd) ∧ w'.cell? ⟨w.heap.size, 1, none⟩ = some (.bool six) ∧ w'.cell? ⟨w.heap.size, 2, none⟩ = some (.int .u64 hi) ∧ w'.cell? ⟨w.heap.size, 3, none⟩ = some (.int .u64 lo) ∧ w'.cell? ⟨w.heap.size, 4, none⟩ = some (.int .i64 n) ∧ w'.cell? ⟨w.heap.size, 5, none⟩ = some (.int .i64 hop) ∧ w'.cell? ⟨w.heap.size, 6, none⟩ = some (.bool six2) ∧ w'.cell? ⟨w.heap.size, 7, none⟩ = some (.int .u64 hi2) ∧ w'.cell? ⟨w.heap.size, 8, none⟩ = some (.int .u64 lo2) ∧ w'.cell? ⟨Q, 73, none⟩ = some (.int .i64 k))
              ((first | with_reducible assumption | (with_reducible refine keepF2 ?_ ?_; (repeat' first | with_reducible exact HKO.out | with_reducible exact Q73.out | with_reducible refine Blk.drew ?_ | with_reducible refine Blk.drewN ?_ _ | with_reducible refine Blk.far ?_ hneq _ | with_reducible refine c73_drew ?_ | with_reducible refine c73_drewN ?_ _ | with_reducible refine c73_set ?_ (by omega)))))
              (first | (go_at_call 190; refine (CAW.out _ (by rfl)).mono ?_; rintro e w7 ⟨rfl, d7, rfl⟩))
            go_wp2_with fail
            go_meet
            case rel => exact ⟨HQO.out.store9 (by rfl) (by omega) ⟨kd, ⟨six, hi, lo, n⟩, hop, ⟨six2, hi2, lo2⟩⟩, ((Kept.of_below (below_step HBX.out HBO.out)).same _ (by rfl)).nine _ _ _ _ _ _ _ _ _ _⟩
          case rest =>
            obtain ⟨hqa, hkp⟩ := hcut
            have HQA := Lib.hid hqa
            have HKP := Lib.hid hkp
            obtain ⟨p72, p73⟩ := hqa.first
            have pz := hqa.blk.frozen 73
            clear hqa hkp
            go_wp2
            rw [← HP.out]
            have hd : jobD (ringL r f k) ⟨1, a, nn⟩ = ⟨0, false, []⟩ := by unfold jobD; rw [if_pos rfl, if_neg (by simp [HE.out]), if_neg (by rw [HNH.out]; simp), if_neg (by rw [ring_length]; have := H8.out; omega)]
            have hq : jobQ (ringL r f k) ⟨1, a, nn⟩ = ringL (r.set ((f + k) % 8) a) f (k + 1) := by unfold jobQ; rw [if_pos rfl, if_neg (by simp [HE.out]), if_neg (by rw [HNH.out]; simp), if_neg (by rw [ring_length]; have := H8.out; omega), ring_push HQO.out.len f (by have := H8.out; omega)]
            refine ⟨r.set ((f + k) % 8) ⟨kd, ⟨six, hi, lo, n⟩, hop, ⟨six2, hi2, lo2⟩⟩, k + 1, by rw [hd]; rfl, HQA.out.count (m' := k + 1) (by have := H8.out; omega), ?_, by rw [hd], Kept.setCell HKP.out (.inl (by simp)) _⟩
            rw [hq, ← HA.out]
  · have hne : (E != 0) = true := by simpa using hz
    have HZ := Lib.hid hz
    clear hz
    go_enter Try.func135, Try.ntmps135
    go_wp2_with fail
    refine (CF.out _).mono ?_
    rintro e X ⟨rfl, hb⟩
    have HBX := Lib.hid (balloc1 hb)
    clear hb
    go_wp2
    rw [← HP.out]
    have hd : jobD (ringL r f m) ⟨1, a, nn⟩ = ⟨E, false, []⟩ := by unfold jobD; rw [if_pos rfl, if_pos (by rw [HE.out]; exact HZ.out), HE.out]
    have hq : jobQ (ringL r f m) ⟨1, a, nn⟩ = ringL r f m := by unfold jobQ; rw [if_pos rfl, if_pos (by rw [HE.out]; exact HZ.out)]
    exact ⟨r, m, by rw [hd]; rfl, H.out.below HBX.out, hq.symm, by rw [hd], Kept.of_below HBX.out⟩

end Go.Proofs.Ytnflaaoapmhjgaa

namespace Go.Proofs.Ytnflaaoapmhjgaa
open Go.ChangeShapes Go.WideShapes Go.ChangeAt Go.RowKit

theorem infoAct : (Try.prog.info? 117).map (fun i => (i.zero, i.size, i.bytes)) = some (some (.agg #[.int .i64 0, .bool false, .int .u64 0, .int .u64 0, .int .i64 0, .int .i64 0, .bool false, .int .u64 0, .int .u64 0]), 9, 72) := by kernel_rfl
theorem act_one (a : ActV) : ∀ u ∈ a.cells, u.oneCell' = true := by
  intro u hu
  simp [ActV.cells] at hu
  rcases hu with rfl | rfl | rfl | rfl | rfl | rfl | rfl | rfl | rfl <;> rfl
theorem at0_is {w : World} {Q : Nat} {r : List ActV} {f m : Nat} (h : QAt w Q r f m) :
    Calls Try.prog 190 #[.pointer (some ⟨Q, 0, none⟩), .int .i64 0] w fun e w' => e = .returned (.pointer (some ⟨Q, f * 9, none⟩)) ∧ ∃ k, w' = w.drewN k := by
  have := at_is h 0 (by omega)
  rw [Nat.add_zero, Nat.mod_eq_of_lt h.f8] at this
  exact this
theorem take_snoc {α : Type} {l : List α} {k : Nat} {x : α} (h : l[k]? = some x) : l.take (k + 1) = l.take k ++ [x] := by
  rw [List.take_add_one, h]; rfl

theorem Kept.then_low {S : List Nat} {w w1 w2 : World} (h : Kept S w w1) (hb : Below w.heap.size w1 w2) : Kept S w w2 :=
  ⟨hb.os.trans h.os, hb.tape.trans h.tape, hb.output.trans h.output, Nat.le_trans h.size hb.size, fun k hk hn => (hb.block k hk).trans (h.block k hk hn)⟩

/-- What is pulled: a row of the call's own. -/
def Pulled (w : World) (Q : Nat) (q : List ActV) (n : Nat) (e : Ending) (w' : World) : Prop :=
  ∃ (v : Value) (r' : List ActV) (f' m' : Nat), e = .returned v ∧ QAt w' Q r' f' m' ∧ ringL r' f' m' = q.drop n ∧ w'.ownsRow w.heap.size 117 9 v (q.take n).length ((q.take n).flatMap ActV.cells) ∧ Kept [Q] w w'
set_option maxRecDepth 100000 in
set_option maxHeartbeats 3200000 in
theorem pull_any {w : World} {Q : Nat} {r : List ActV} {f m : Nat} (h : QAt w Q r f m) (nn : Int) (n : Nat) (hn : nn = (n : Int)) (hn8 : n ≤ 8) :
    Calls Try.prog 136 #[.pointer (some ⟨Q, 0, none⟩), .int .i64 nn] w (Pulled w Q (ringL r f m) n) := by
  have hm8 := h.m8
  have hql := h.blk.lt
  have HN := Lib.hid hn
  have H := Lib.hid h
  clear h hn
  obtain ⟨post, hpost⟩ : ∃ post, Pulled w Q (ringL r f m) n = post := ⟨_, rfl⟩
  have HP := Lib.hid hpost
  rw [hpost]
  clear hpost
  go_enter Try.func136, Try.ntmps136
  go_wp2
  go_loopw [1, 5] (fun i v wr => ∃ (k mm ff : Nat) (z : Int), k + mm = m ∧ ff < 8 ∧ k ≤ n ∧ z = (n : Int) - (k : Int) ∧ i = .int .i64 z ∧ QAt wr Q r ff mm ∧ ringL r ff mm = (ringL r f m).drop k ∧ wr.ownsRow w.heap.size 117 9 v k (((ringL r f m).take k).flatMap ActV.cells) ∧ Kept [Q] w wr) (fun i _ _ => (intOf i).toNat)
  case atStart => exact ⟨0, m, f, nn, by omega, H.out.f8, by omega, by rw [HN.out]; omega, rfl, H.out.keep rfl, rfl, World.ownsRow_nil _ _ _ _, Kept.of_below (Below.refl _ _)⟩
  case round =>
    obtain ⟨k, mm, ff, z, hkm, hf8, hkn, hz, rfl, hq, hrg, hown, hkp⟩ := hrel
    obtain ⟨wo, rfl⟩ : ∃ wo : World, wo = wr := ⟨_, rfl⟩
    have HQO := Lib.hid hq
    have HRG := Lib.hid hrg
    have HOWN := Lib.hid hown
    have HKP := Lib.hid hkp
    have HZ := Lib.hid hz
    obtain ⟨q72, q73⟩ := hq.first
    have hsz := hkp.size
    have hz8 : 0 ≤ z ∧ z ≤ 8 := by omega
    clear hq hrg hown hkp hz
    by_cases h1 : 0 < z
    · have d1 : decide (0 < z) = true := by simpa using h1
      by_cases h2 : 0 < mm
      · have d2 : decide ((0 : Int) < (mm : Int)) = true := by simpa using h2
        obtain ⟨x, hx⟩ : ∃ x, r[ff]? = some x := ⟨r[ff]'(by rw [HQO.out.len]; omega), List.getElem?_eq_getElem _⟩
        have hq0 : (ringL r f m)[k]? = some x := by
          have e1 := ring_get r ff h2
          rw [HRG.out, List.getElem?_drop, Nat.add_zero, Nat.add_zero, Nat.mod_eq_of_lt hf8, hx] at e1
          exact e1
        have HX0 := Lib.hid hq0
        obtain ⟨x0, x1, x2, x3, x4, x5, x6, x7, x8⟩ := HQO.out.nine (p := x.p) hx rfl rfl rfl
        have CA := Lib.hid (fun d => at0_is (w := wo.drewN d) (r := r) (f := ff) (m := mm) (Q := Q) (HQO.out.keep rfl))
        have CA0 := Lib.hid (at0_is HQO.out)
        have w1 : IntKind.i64.wrap ((ff : Int) + 1) = ((ff + 1 : Nat) : Int) := by rw [IntWalk.i64_in _ (by omega)]; omega
        have w3 : IntKind.i64.wrap (z - 1) = z - 1 := by rw [IntWalk.i64_in _ (by omega)]
        have w2 : IntKind.i64.wrap ((mm : Int) - 1) = ((mm - 1 : Nat) : Int) := by rw [IntWalk.i64_in _ (by omega)]; omega
        clear hx hq0
        go_wp2_with fail
        refine (CA0.out).mono ?_
        rintro e w5 ⟨rfl, d5, rfl⟩
        have HOW5 := Lib.hid (own_below HOWN.out (below_drewN (Below.refl _ _) d5))
        go_wp2_with (at_builtin; go_loud (refine wpList_append_oneN (us := x.cells) rfl _ _ 27 rfl w.heap.size _ 9 72 Try.underlying27 infoAct rfl (by decide) _ _ _ rfl rfl rfl HOW5.out ?c1 rfl ?c4 ?c2 ?c3 ?_))
        case c1 => exact hsz
        case c2 => unfold maxLen; omega
        case c3 => omega
        case c4 => exact act_one _
        intro v' w9 hown' hb9 hs9 hk9
        have HO9 := Lib.hid hown'
        have hq9 : QAt w9 Q r ff mm := (HQO.out.keep (w' := wo.drewN d5) rfl).keep (hb9.block Q (by omega))
        have HQ9 := Lib.hid hq9
        have HB9 := Lib.hid hb9
        have HK9 : Hid (Kept [Q] w w9) := Kept.then_low (HKP.out.then_below (below_drewN (Below.refl _ _) d5)) hb9
        obtain ⟨p72, p73⟩ := hq9.first
        have z72 := hq9.blk.frozen 72
        have z73 := hq9.blk.frozen 73
        clear hown' hb9 hk9 hq9
        go_wp2
        go_roundw
        case rel =>
          have HZZ := HZ.out
          have hQQ : Q ∈ [Q] := by simp
          have hb72 : ∀ {W : World} (o : Nat) (u : Value), Below w.heap.size w9 W → True := fun _ _ _ => trivial
          have e9 : ((ff : Int) + 1) % 8 = ((((ff + 1) % 8 : Nat)) : Int) := by omega
          refine ⟨k + 1, mm - 1, (ff + 1) % 8, z - 1, by omega, by omega, by omega, by omega, rfl, ?_, ?_, ?_, ?_⟩
          · rw [e9]
            exact (HQ9.out.front (by omega)).count (by omega)
          · obtain ⟨m1, rfl⟩ : ∃ m1, mm = m1 + 1 := ⟨mm - 1, by omega⟩
            rw [Nat.add_sub_cancel, ring_pop, HRG.out, List.drop_drop]
          · rw [take_snoc HX0.out, List.flatMap_append]
            have e : List.flatMap ActV.cells [x] = x.cells := by simp
            rw [e]
            exact ownsRow_setCell_other (ownsRow_setCell_other HO9.out (a := ⟨Q, 72, none⟩) (fun he => by have h : w.heap.size ≤ Q := (HO9.out.lt _ he).1; omega) _) (a := ⟨Q, 73, none⟩) (fun he => by have h : w.heap.size ≤ Q := (HO9.out.lt _ he).1; omega) _
          · exact (HK9.out.setCell (.inl hQQ) _).setCell (.inl hQQ) _
        case measure => simp [intOf]; omega
      · have d2 : decide ((0 : Int) < (mm : Int)) = false := by simpa using h2
        go_wp2
        rw [← HP.out]
        have hdr : (ringL r f m).drop n = [] := List.drop_eq_nil_of_le (by rw [ring_length]; omega)
        have hdk : (ringL r f m).drop k = [] := List.drop_eq_nil_of_le (by rw [ring_length]; omega)
        have htk : (ringL r f m).take n = (ringL r f m).take k := by rw [List.take_of_length_le (by rw [ring_length]; omega), List.take_of_length_le (by rw [ring_length]; omega)]
        have hlk : ((ringL r f m).take k).length = k := by rw [List.length_take, ring_length]; omega
        refine ⟨u5, r, ff, mm, rfl, HQO.out.keep rfl, ?_, ?_, ?_⟩
        · rw [HRG.out, hdr, hdk]
        · rw [htk, hlk]; exact HOWN.out
        · exact HKP.out
    · have d1 : decide (0 < z) = false := by simpa using h1
      go_wp2
      rw [← HP.out]
      have hkn' : k = n := by have := HZ.out; omega
      have hlk : ((ringL r f m).take k).length = k := by rw [List.length_take, ring_length]; omega
      refine ⟨u5, r, ff, mm, rfl, HQO.out.keep rfl, ?_, ?_, ?_⟩
      · rw [HRG.out, hkn']
      · rw [← hkn', hlk]; exact HOWN.out
      · exact HKP.out

end Go.Proofs.Ytnflaaoapmhjgaa

namespace Go.Proofs.Ytnflaaoapmhjgaa
open Go.ChangeShapes Go.WideShapes Go.ChangeAt Go.RowKit

def DidJ (w : World) (Q : Nat) (q : List ActV) (j : JobV) (e : Ending) (w' : World) : Prop :=
  ∃ (v : Value) (r' : List ActV) (f' m' : Nat), e = .returned (.agg #[.int .i64 (jobD q j).code, .bool (jobD q j).merged, v]) ∧ QAt w' Q r' f' m' ∧ ringL r' f' m' = jobQ q j ∧ w'.ownsRow w.heap.size 117 9 v (jobD q j).acts.length ((jobD q j).acts.flatMap ActV.cells) ∧ Kept [Q] w w'
theorem Blk.keepK {S : List Nat} {w w' : World} {g : Nat} {t : TypeId} {cs : Array Value} (h : Blk w g t cs) (hk : Kept S w w') (hS : g ∉ S) : Blk w' g t cs := (hk.block g h.lt hS).trans h
theorem Kept.trans2 {S : List Nat} {w w1 w2 : World} (h : Kept S w w1) (h' : Kept S w1 w2) : Kept S w w2 :=
  ⟨h'.os.trans h.os, h'.tape.trans h.tape, h'.output.trans h.output, Nat.le_trans h.size h'.size, fun k hk hS => (h'.block k (by have := h.size; omega) hS).trans (h.block k hk hS)⟩
theorem own_low {w : World} {base base' : Nat} {e : TypeId} {size : Nat} {v : Value} {n : Nat} {xs : List Value} (h : w.ownsRow base e size v n xs) (hb : base' ≤ base) : w.ownsRow base' e size v n xs :=
  ⟨h.1, h.2.imp id fun ⟨g, cap, cur, h1, h2, h3⟩ => ⟨g, cap, cur, h1, Nat.le_trans hb h2, h3⟩⟩
theorem Kept.refl (S : List Nat) (w : World) : Kept S w w := Kept.of_below (Below.refl _ _)
theorem own_nil_of {w : World} {base : Nat} {e : TypeId} {l : List ActV} (h : l = []) : w.ownsRow base e 9 (.slice none 0 0) l.length (l.flatMap ActV.cells) := by subst h; exact World.ownsRow_nil _ _ _ _
theorem QAt.two {w : World} {Q : Nat} {r : List ActV} {f m : Nat} (h : QAt w Q r f m) (o o' : Obj) : QAt ((w.alloc o).alloc o') Q r f m := by
  have h1 : QAt (w.alloc o) Q r f m := h.keep (Below.heap_alloc _ _ _ h.blk.lt)
  exact h1.keep (Below.heap_alloc _ _ _ h1.blk.lt)
theorem QAt.far {w : World} {Q : Nat} {r : List ActV} {f m : Nat} (h : QAt w Q r f m) {p : Addr} (hp : Q ≠ p.block) (u : Value) : QAt (w.setCell p u) Q r f m := h.keep (Below.heap_setCell w p u Q hp)

set_option maxRecDepth 100000 in
set_option maxHeartbeats 3200000 in
theorem do_any {w : World} {Q : Nat} {r : List ActV} {f m : Nat} (h : QAt w Q r f m) (hg : GoodQ (ringL r f m)) (jk kd : Int) (six : Bool) (hi lo n hop : Int) (six2 : Bool) (hi2 lo2 jn : Int) (h1 : 0 ≤ hi ∧ hi < 18446744073709551616) (h2 : 0 ≤ lo ∧ lo < 18446744073709551616) :
    Calls Try.prog 65 #[.pointer (some ⟨Q, 0, none⟩), .agg #[.int .i64 jk, .int .i64 kd, .bool six, .int .u64 hi, .int .u64 lo, .int .i64 n, .int .i64 hop, .bool six2, .int .u64 hi2, .int .u64 lo2, .int .i64 jn]] w (DidJ w Q (ringL r f m) ⟨jk, ⟨kd, ⟨six, hi, lo, n⟩, hop, ⟨six2, hi2, lo2⟩⟩, jn⟩) := by
  have H := Lib.hid h
  have hm8 := h.m8
  have hql := h.blk.lt
  have hne0 : w.heap.size ≠ Q := by omega
  have hne1 : w.heap.size + 1 ≠ Q := by omega
  obtain ⟨q72, q73⟩ := (h.two (.cells #[.int .i64 jk, .int .i64 kd, .bool six, .int .u64 hi, .int .u64 lo, .int .i64 n, .int .i64 hop, .bool six2, .int .u64 hi2, .int .u64 lo2, .int .i64 jn] 122) (.cells #[.int .i64 0, .bool false, .slice none 0 0] 29)).first
  clear q72
  have CP := Lib.hid (fun o o' => push_any (h.two o o') hg kd six hi lo n hop six2 hi2 lo2 jn h1 h2)
  have CQ := Lib.hid (fun o o' (n : Nat) (hn : jn = (n : Int)) (hn8 : n ≤ 8) => pull_any (h.two o o') jn n hn hn8)
  have hrl := ring_length r f m
  clear h hg h1 h2
  obtain ⟨a, ha⟩ : ∃ a : ActV, (⟨kd, ⟨six, hi, lo, n⟩, hop, ⟨six2, hi2, lo2⟩⟩ : ActV) = a := ⟨_, rfl⟩
  have HA := Lib.hid ha
  rw [ha] at CP ⊢
  clear ha
  obtain ⟨q, hq⟩ : ∃ q, ringL r f m = q := ⟨_, rfl⟩
  have HQ := Lib.hid hq
  rw [hq] at CP CQ hrl ⊢
  clear hq
  have hrl' : q = [] ↔ m = 0 := by constructor; (intro e; subst e; simpa using hrl.symm); (intro e; subst e; exact List.length_eq_zero_iff.1 hrl)
  have HRL := Lib.hid hrl'
  clear hrl hrl'
  obtain ⟨post, hpost⟩ : ∃ post, DidJ w Q q ⟨jk, a, jn⟩ = post := ⟨_, rfl⟩
  have HP := Lib.hid hpost
  rw [hpost]
  clear hpost
  by_cases h1 : jk = 1
  · subst h1
    go_enter Try.func65, Try.ntmps65
    go_wp2_with fail

    refine (CP.out _ _).mono ?_
    rintro e X ⟨r', m', rfl, hqa, hrg, hacts, hkp⟩
    have hD : jobD q ⟨1, a, jn⟩ = jobD q ⟨1, a, jn⟩ := rfl
    obtain ⟨dd, hdd⟩ : ∃ dd, jobD q ⟨1, a, jn⟩ = dd := ⟨_, rfl⟩
    have HDD := Lib.hid hdd
    rw [hdd] at hacts ⊢
    clear hD hdd
    have HQA := Lib.hid hqa
    have HRG := Lib.hid hrg
    have HAC := Lib.hid hacts
    have hk4 := Blk.keepK (Blk.new (w.alloc _) 29 #[.int .i64 0, .bool false, .slice none 0 0]) hkp (by simp; omega)
    have k0 := hk4.cell 0
    have k1 := hk4.cell 1
    have k2 := hk4.cell 2
    have z0 := hk4.frozen 0
    have z1 := hk4.frozen 1
    have z2 := hk4.frozen 2
    simp at k0 k1 k2 z0 z1 z2

    have HKP := Lib.hid hkp
    clear hqa hrg hacts hk4 hkp
    go_wp2
    refine bodyPost_ret (v := .agg #[.int .i64 dd.code, .bool dd.merged, .slice none 0 0]) (by simp [results, Try.results65, go_sem, Act.put, k0, k1, k2]) rfl ?_
    rw [← HP.out]
    have K0 : Kept [Q] w X := Kept.trans2 (Kept.alloc (Kept.alloc (Kept.refl _ _) _) _) HKP.out
    have hqq : Q ≠ w.heap.size + 1 := by omega
    have hle : w.heap.size ≤ w.heap.size + 1 := by omega
    refine ⟨.slice none 0 0, r', f, m', by rw [HDD.out], ((HQA.out.far hqq _).far hqq _).far hqq _, HRG.out, ?_, ((K0.setCell (.inr hle) _).setCell (.inr hle) _).setCell (.inr hle) _⟩
    rw [HDD.out]
    exact own_nil_of HAC.out
  · have d1 : (jk == 1) = false := by simpa using h1
    have hd1 : jobD q ⟨jk, a, jn⟩ = if ¬ jk = 2 then ⟨3, false, []⟩ else if jn < 1 ∨ 8 < jn then ⟨2, false, []⟩ else if q = [] then ⟨7, false, []⟩ else ⟨0, false, q.take jn.toNat⟩ := by unfold jobD; rw [if_neg h1]
    have hq1 : jobQ q ⟨jk, a, jn⟩ = if ¬ jk = 2 then q else if jn < 1 ∨ 8 < jn then q else q.drop jn.toNat := by unfold jobQ; rw [if_neg h1]
    have HD1 := Lib.hid hd1
    have HQ1 := Lib.hid hq1
    clear h1 hd1 hq1
    by_cases h2 : jk = 2
    · subst h2
      have hs := HD1.out
      have ht := HQ1.out
      rw [if_neg (by simp)] at hs ht
      have HS := Lib.hid hs
      have HT := Lib.hid ht
      clear hs ht
      by_cases h3 : jn < 1 ∨ 8 < jn
      · have hc : jobD q ⟨2, a, jn⟩ = ⟨2, false, []⟩ := by rw [HS.out, if_pos h3]
        have hu : jobQ q ⟨2, a, jn⟩ = q := by rw [HT.out, if_pos h3]
        have HC := Lib.hid hc
        have HU := Lib.hid hu
        clear hc hu
        by_cases h4 : jn < 1
        · have d4 : decide (jn < 1) = true := by simpa using h4
          clear h3 h4
          go_enter Try.func65, Try.ntmps65
          go_wp2_with fail

          refine bodyPost_ret (v := .agg #[.int .i64 2, .bool false, .slice none 0 0]) (by simp [results, Try.results65, go_sem, Act.put]) rfl ?_
          rw [← HP.out]
          refine ⟨.slice none 0 0, r, f, _, by rw [HC.out], H.out.two _ _, by rw [HU.out, HQ.out], ?_, Kept.alloc (Kept.alloc (Kept.refl _ _) _) _⟩
          rw [HC.out]
          exact own_nil_of rfl

        · have d4 : decide (jn < 1) = false := by simpa using h4
          have d5 : decide (8 < jn) = true := by simp; omega
          clear h3 h4
          go_enter Try.func65, Try.ntmps65
          go_wp2_with fail

          refine bodyPost_ret (v := .agg #[.int .i64 2, .bool false, .slice none 0 0]) (by simp [results, Try.results65, go_sem, Act.put]) rfl ?_
          rw [← HP.out]
          refine ⟨.slice none 0 0, r, f, _, by rw [HC.out], H.out.two _ _, by rw [HU.out, HQ.out], ?_, Kept.alloc (Kept.alloc (Kept.refl _ _) _) _⟩
          rw [HC.out]
          exact own_nil_of rfl

      · have d4 : decide (jn < 1) = false := by simp; omega
        have d5 : decide (8 < jn) = false := by simp; omega
        have hs2 := HS.out
        have ht2 := HT.out
        rw [if_neg h3] at hs2 ht2
        by_cases h6 : m = 0
        · rw [if_pos (HRL.out.2 h6)] at hs2
          rw [HRL.out.2 h6] at ht2
          have HC := Lib.hid hs2
          have HU : Hid (jobQ q ⟨2, a, jn⟩ = q) := by show _ = _; rw [HRL.out.2 h6, ht2]; simp
          clear hs2 ht2
          subst h6
          go_enter Try.func65, Try.ntmps65
          go_wp2_with fail

          refine bodyPost_ret (v := .agg #[.int .i64 7, .bool false, .slice none 0 0]) (by simp [results, Try.results65, go_sem, Act.put]) rfl ?_
          rw [← HP.out]
          refine ⟨.slice none 0 0, r, f, _, by rw [HC.out], H.out.two _ _, by rw [HU.out, HQ.out], ?_, Kept.alloc (Kept.alloc (Kept.refl _ _) _) _⟩
          rw [HC.out]
          exact own_nil_of rfl

        · rw [if_neg (fun e => h6 (HRL.out.1 e))] at hs2
          have HC := Lib.hid hs2
          have HU := Lib.hid ht2
          clear hs2 ht2
          have d6 : ((m : Int) == 0) = false := by simpa using h6
          have CQ1 := Lib.hid (fun o o' => CQ.out o o' jn.toNat (by omega) (by omega))
          clear h6 h3
          go_enter Try.func65, Try.ntmps65
          go_wp2_with fail

          refine (CQ1.out _ _).mono ?_
          rintro e X ⟨v, r', f', m', rfl, hqa, hrg, hown, hkp⟩
          obtain ⟨A, c, rfl, -, -⟩ := own_reads hown
          obtain ⟨len, hlen⟩ : ∃ len, (q.take jn.toNat).length = len := ⟨_, rfl⟩
          have HLEN := Lib.hid hlen
          rw [hlen] at hown ⊢
          clear hlen
          have hk4 := Blk.keepK (Blk.new (w.alloc _) 29 #[.int .i64 0, .bool false, .slice none 0 0]) hkp (by simp; omega)
          have k0 := hk4.cell 0
          have k1 := hk4.cell 1
          have k2 := hk4.cell 2
          have z0 := hk4.frozen 0
          have z1 := hk4.frozen 1
          have z2 := hk4.frozen 2
          simp at k0 k1 k2 z0 z1 z2

          have HQA := Lib.hid hqa
          have HRG := Lib.hid hrg
          have HOW := Lib.hid hown
          have HKP := Lib.hid hkp
          clear hqa hrg hown hk4 hkp
          go_wp2
          refine bodyPost_ret (v := .agg #[.int .i64 0, .bool false, .slice A len c]) (by simp [results, Try.results65, go_sem, Act.put, k0, k1, k2]) rfl ?_
          rw [← HP.out]
          have K0 : Kept [Q] w X := Kept.trans2 (Kept.alloc (Kept.alloc (Kept.refl _ _) _) _) HKP.out
          have hqq : Q ≠ w.heap.size + 1 := by omega
          have hle : w.heap.size ≤ w.heap.size + 1 := by omega
          have hvn : (Value.slice A len c).ownBlock ≠ some (w.heap.size + 1) := fun he => by have h := (HOW.out.lt _ he).1; simp at h; omega
          refine ⟨.slice A len c, r', f', m', by rw [HC.out], ((HQA.out.far hqq _).far hqq _).far hqq _, by rw [HRG.out, HU.out], ?_, ((K0.setCell (.inr hle) _).setCell (.inr hle) _).setCell (.inr hle) _⟩
          rw [HC.out, show (q.take jn.toNat).length = len from HLEN.out]
          exact ownsRow_setCell_other (ownsRow_setCell_other (ownsRow_setCell_other (own_low HOW.out (by simp; omega)) hvn _) hvn _) hvn _
    · have d2 : (jk == 2) = false := by simpa using h2
      have hc : jobD q ⟨jk, a, jn⟩ = ⟨3, false, []⟩ := by rw [HD1.out, if_pos h2]
      have hu : jobQ q ⟨jk, a, jn⟩ = q := by rw [HQ1.out, if_pos h2]
      have HC := Lib.hid hc
      have HU := Lib.hid hu
      clear hc hu h2
      go_enter Try.func65, Try.ntmps65
      go_wp2_with fail

      refine bodyPost_ret (v := .agg #[.int .i64 3, .bool false, .slice none 0 0]) (by simp [results, Try.results65, go_sem, Act.put]) rfl ?_
      rw [← HP.out]
      refine ⟨.slice none 0 0, r, f, _, by rw [HC.out], H.out.two _ _, by rw [HU.out, HQ.out], ?_, Kept.alloc (Kept.alloc (Kept.refl _ _) _) _⟩
      rw [HC.out]
      exact own_nil_of rfl


end Go.Proofs.Ytnflaaoapmhjgaa

namespace Go.Proofs.Ytnflaaoapmhjgaa
open Go.ChangeShapes Go.WideShapes Go.ChangeAt Go.RowKit

def JobV.cells (j : JobV) : List Value := [.int .i64 j.kind, .int .i64 j.act.kind, .bool j.act.p.six, .int .u64 j.act.p.hi, .int .u64 j.act.p.lo, .int .i64 j.act.p.n, .int .i64 j.act.hop, .bool j.act.a.six, .int .u64 j.act.a.hi, .int .u64 j.act.a.lo, .int .i64 j.n]
theorem JobV.cells_length (j : JobV) : j.cells.length = 11 := rfl
/-- A slice of jobs as it comes in. -/
structure IsJobs (w : World) (A : Option Addr) (n : Nat) (l : List JobV) : Prop where
  len : l.length = n
  reads : Reads w w.heap.size 11 A n (l.flatMap JobV.cells)
  ok : ∀ j ∈ l, (0 ≤ j.act.p.hi ∧ j.act.p.hi < 18446744073709551616) ∧ (0 ≤ j.act.p.lo ∧ j.act.p.lo < 18446744073709551616)

/-- All blocks of one element type are kept. -/
def KeepT (t : TypeId) (w w' : World) : Prop := ∀ (g : Nat) (cs : Array Value), w.heap[g]? = some (Obj.cells cs t) → w'.heap[g]? = w.heap[g]?
theorem own_keepT {w w' : World} {base : Nat} {e : TypeId} {size : Nat} {v : Value} {n : Nat} {xs : List Value} (h : w.ownsRow base e size v n xs) (hk : KeepT e w w') : w'.ownsRow base e size v n xs :=
  ⟨h.1, h.2.imp id fun ⟨g, cap, cur, h1, h2, h3, h4⟩ => ⟨g, cap, cur, h1, h2, (hk g cur h3).trans h3, h4⟩⟩
theorem own_type {w : World} {base : Nat} {e : TypeId} {size : Nat} {v : Value} {n : Nat} {xs : List Value} (h : w.ownsRow base e size v n xs) {g : Nat} (hg : v.ownBlock = some g) : ∃ cs, w.heap[g]? = some (Obj.cells cs e) := by
  rcases h.2 with ⟨rfl, _⟩ | ⟨g', cap, cur, rfl, _, hh, _⟩
  · simp [Value.ownBlock] at hg
  · simp [Value.ownBlock] at hg
    subst hg
    exact ⟨cur, hh⟩
theorem KeepT.trans {t : TypeId} {w w1 w2 : World} (h : KeepT t w w1) (h' : KeepT t w1 w2) : KeepT t w w2 := fun g cs hg => (h' g cs ((h g cs hg).trans hg)).trans (h g cs hg)
theorem KeepT.alloc (t : TypeId) (w : World) (o : Obj) : KeepT t w (w.alloc o) := fun g cs hg => Below.heap_alloc w o g (Array.getElem?_eq_some_iff.1 hg).1
theorem KeepT.of_kept {t t' : TypeId} {w w' : World} {Q : Nat} {cs : Array Value} (h : Kept [Q] w w') (hq : Blk w Q t' cs) (hne : t ≠ t') : KeepT t w w' := fun g cs' hg =>
  h.block g (Array.getElem?_eq_some_iff.1 hg).1 (by
    intro hm
    simp at hm
    subst hm
    have e := hg.symm.trans hq
    injection e with e
    injection e with _ e
    exact hne e)
theorem KeepT.of_own {t e : TypeId} {w w' : World} {base size n : Nat} {v : Value} {xs : List Value} (h : ∀ k, k < w.heap.size → v.ownBlock ≠ some k → w'.heap[k]? = w.heap[k]?) (hv : w.ownsRow base e size v n xs) (hne : t ≠ e) : KeepT t w w' := fun g cs hg =>
  h g (Array.getElem?_eq_some_iff.1 hg).1 fun he => by
    obtain ⟨cs', hh⟩ := own_type hv he
    have e := hg.symm.trans hh
    injection e with e
    injection e with _ e
    exact hne e

/-! What jobs came to, in a row of the call's own. -/
def DoneAt (w : World) (base : Nat) (c : List Value) (d : DoneV) : Prop :=
  ∃ v, c = [.int .i64 d.code, .bool d.merged, v] ∧ w.ownsRow base 117 9 v d.acts.length (d.acts.flatMap ActV.cells)
def RowsD (w : World) (base : Nat) : List (List Value) → List DoneV → Prop
  | [], [] => True
  | c :: cs, d :: ds => DoneAt w base c d ∧ RowsD w base cs ds
  | _, _ => False
theorem RowsD.keep {w w' : World} {base : Nat} (hk : KeepT 117 w w') : ∀ {cs : List (List Value)} {ds : List DoneV}, RowsD w base cs ds → RowsD w' base cs ds
  | [], [], _ => trivial
  | _ :: _, _ :: _, ⟨⟨v, h1, h2⟩, h3⟩ => ⟨⟨v, h1, own_keepT h2 hk⟩, h3.keep hk⟩
theorem RowsD.snoc {w : World} {base : Nat} {c : List Value} {d : DoneV} (hd : DoneAt w base c d) : ∀ {cs : List (List Value)} {ds : List DoneV}, RowsD w base cs ds → RowsD w base (cs ++ [c]) (ds ++ [d])
  | [], [], _ => ⟨hd, trivial⟩
  | _ :: _, _ :: _, ⟨h1, h3⟩ => ⟨h1, h3.snoc hd⟩
theorem RowsD.length {w : World} {base : Nat} : ∀ {cs : List (List Value)} {ds : List DoneV}, RowsD w base cs ds → cs.length = ds.length
  | [], [], _ => rfl
  | _ :: _, _ :: _, ⟨_, h3⟩ => congrArg (· + 1) h3.length
structure DonesAt (w : World) (base : Nat) (v : Value) (ds : List DoneV) : Prop where
  rows : ∃ cs, w.ownsRow base 29 3 v ds.length (cs.flatMap id) ∧ RowsD w base cs ds
theorem infoDone : (Try.prog.info? 29).map (fun i => (i.zero, i.size, i.bytes)) = some (some (.agg #[.int .i64 0, .bool false, .slice none 0 0]), 3, 40) := by kernel_rfl

def PlayedJ (w : World) (n : Nat) (l : List JobV) (e : Ending) (w' : World) : Prop :=
  (100 < n → e = .returned (.tuple #[.slice none 0 0, .int .i64 1]) ∧ Below w.heap.size w w') ∧
    (¬ 100 < n → ∃ v, e = .returned (.tuple #[v, .int .i64 0]) ∧ DonesAt w' w.heap.size v (playD l []) ∧ Below w.heap.size w w')
def zero8 : List ActV := List.replicate 8 zeroA
set_option maxRecDepth 100000 in
theorem zero_q (w : World) : QAt (w.alloc (.cells (qCells zero8 0 0) 120)) w.heap.size zero8 0 0 := ⟨Blk.new w _ _, by simp [zero8], by omega, by omega⟩

set_option maxRecDepth 100000 in
set_option maxHeartbeats 3200000 in
theorem play_any {w : World} {A : Option Addr} {n c : Nat} {l : List JobV} (h : IsJobs w A n l) (hc : n ≤ c ∧ c ≤ maxLen) :
    Calls Try.prog 20 #[.slice A n c] w (PlayedJ w n l) := by
  have HZ := Lib.hid h.len
  have HR := Lib.hid h.reads
  have HOK := Lib.hid h.ok
  have hcm := hc.2
  unfold maxLen at hcm
  clear h hc
  obtain ⟨post, hpost⟩ : ∃ post, PlayedJ w n l = post := ⟨_, rfl⟩
  have HP := Lib.hid hpost
  rw [hpost]
  clear hpost
  by_cases h100 : 100 < n
  · have d1 : decide (100 < (n : Int)) = true := by simp; omega
    go_enter Try.func20, Try.ntmps20
    go_wp2
    rw [← HP.out]
    exact ⟨fun _ => ⟨rfl, Below.refl _ _⟩, fun hn => absurd h100 hn⟩
  · have d1 : decide (100 < (n : Int)) = false := by simp; omega
    go_enter Try.func20, Try.ntmps20
    go_wp2
    go_loopw [15, 5] (fun i v wr => ∃ (k : Nat) (r : List ActV) (f m : Nat), k ≤ n ∧ i = .int .i64 k ∧ QAt wr w.heap.size r f m ∧ ringL r f m = playQ (l.take k) [] ∧ DonesAt wr w.heap.size v (playD (l.take k) []) ∧ Below w.heap.size w wr) (fun i _ _ => n - (intOf i).toNat)
    case atStart => exact ⟨0, zero8, 0, 0, by omega, rfl, zero_q w, rfl, ⟨[], World.ownsRow_nil _ _ _ _, trivial⟩, (Below.refl _ _).alloc (Nat.le_refl _) _⟩
    case round =>
      obtain ⟨k, r, f, m, hk, rfl, hqa, hrg, hrow, hb⟩ := hrel
      obtain ⟨wo, rfl⟩ : ∃ wo : World, wo = wr := ⟨_, rfl⟩
      have HQA := Lib.hid hqa
      have HRG := Lib.hid hrg
      have HRW := Lib.hid hrow.rows
      have HB := Lib.hid hb
      have hszb := hqa.blk.lt
      clear hqa hrg hrow
      by_cases hlt : k < n
      · obtain ⟨ad, ⟨jk, ⟨kd, ⟨six, hi, lo, n0⟩, hop, ⟨six2, hi2, lo2⟩⟩, jn⟩, rfl, hlk, htk, hmem, hbk, hc0, hcj⟩ := HR.out.atS JobV.cells_length HZ.out hlt
        have q0 := (hb.cell (p := ad.add (k * 11)) (by rw [block_of_add]; exact hbk)).trans (hc0 _ rfl)
        have q1 := (hb.cell (p := ⟨(ad.add (k * 11)).block, (ad.add (k * 11)).off + 1, none⟩) (by rw [block_of_add]; exact hbk)).trans (hcj 1 _ rfl)
        have q2 := (hb.cell (p := ⟨(ad.add (k * 11)).block, (ad.add (k * 11)).off + 2, none⟩) (by rw [block_of_add]; exact hbk)).trans (hcj 2 _ rfl)
        have q3 := (hb.cell (p := ⟨(ad.add (k * 11)).block, (ad.add (k * 11)).off + 3, none⟩) (by rw [block_of_add]; exact hbk)).trans (hcj 3 _ rfl)
        have q4 := (hb.cell (p := ⟨(ad.add (k * 11)).block, (ad.add (k * 11)).off + 4, none⟩) (by rw [block_of_add]; exact hbk)).trans (hcj 4 _ rfl)
        have q5 := (hb.cell (p := ⟨(ad.add (k * 11)).block, (ad.add (k * 11)).off + 5, none⟩) (by rw [block_of_add]; exact hbk)).trans (hcj 5 _ rfl)
        have q6 := (hb.cell (p := ⟨(ad.add (k * 11)).block, (ad.add (k * 11)).off + 6, none⟩) (by rw [block_of_add]; exact hbk)).trans (hcj 6 _ rfl)
        have q7 := (hb.cell (p := ⟨(ad.add (k * 11)).block, (ad.add (k * 11)).off + 7, none⟩) (by rw [block_of_add]; exact hbk)).trans (hcj 7 _ rfl)
        have q8 := (hb.cell (p := ⟨(ad.add (k * 11)).block, (ad.add (k * 11)).off + 8, none⟩) (by rw [block_of_add]; exact hbk)).trans (hcj 8 _ rfl)
        have q9 := (hb.cell (p := ⟨(ad.add (k * 11)).block, (ad.add (k * 11)).off + 9, none⟩) (by rw [block_of_add]; exact hbk)).trans (hcj 9 _ rfl)
        have q10 := (hb.cell (p := ⟨(ad.add (k * 11)).block, (ad.add (k * 11)).off + 10, none⟩) (by rw [block_of_add]; exact hbk)).trans (hcj 10 _ rfl)
        obtain ⟨o1, o2⟩ := HOK.out _ hmem
        simp only at o1 o2
        have hG : GoodQ (ringL r f m) := by rw [HRG.out]; exact good_play (q := []) ⟨by simp, by simp⟩ _
        have CD := Lib.hid (fun (o : Obj) => do_any (w := wo.alloc o) (HQA.out.keep (Below.heap_alloc _ _ _ HQA.out.blk.lt)) hG jk kd six hi lo n0 hop six2 hi2 lo2 jn o1 o2)
        have HTK := Lib.hid htk
        clear hlk htk hmem hc0 hcj hb hbk o1 o2 hG
        go_wp2_with fail
        refine (CD.out _).mono ?_
        rintro e X ⟨va, r', f', m', rfl, hqa, hrg, hown, hkp⟩
        obtain ⟨cs, hrow, hds⟩ := HRW.out
        obtain ⟨jv, hjv⟩ : ∃ jv : JobV, (⟨jk, ⟨kd, ⟨six, hi, lo, n0⟩, hop, ⟨six2, hi2, lo2⟩⟩, jn⟩ : JobV) = jv := ⟨_, rfl⟩
        rw [hjv] at hrg hown HTK ⊢
        rw [HRG.out] at hrg hown ⊢
        obtain ⟨D, hD⟩ : ∃ D, jobD (playQ (l.take k) []) jv = D := ⟨_, rfl⟩
        rw [hD] at hown ⊢
        have hplay : playD (l.take (k + 1)) [] = playD (l.take k) [] ++ [D] := by rw [HTK.out, playD_snoc, hD]
        have hplayq : playQ (l.take (k + 1)) [] = jobQ (playQ (l.take k) []) jv := by rw [HTK.out, playQ_snoc]
        obtain ⟨Av, cv, rfl, -, -⟩ := own_reads hown
        have hlk : (playD (l.take k) []).length = k := by rw [playD_length, List.length_take, HZ.out]; omega
        rw [hlk] at hrow
        obtain ⟨la, hla⟩ : ∃ la, D.acts.length = la := ⟨_, rfl⟩
        rw [hla] at hown ⊢
        have KD : KeepT 29 wo X := (KeepT.alloc _ _ _).trans (KeepT.of_kept hkp (HQA.out.keep (Below.heap_alloc _ _ _ HQA.out.blk.lt)).blk (by decide))
        have KA : KeepT 117 wo X := (KeepT.alloc _ _ _).trans (KeepT.of_kept hkp (HQA.out.keep (Below.heap_alloc _ _ _ HQA.out.blk.lt)).blk (by decide))
        have HOW := Lib.hid (own_keepT hrow KD)
        have HDS := Lib.hid (hds.keep KA)
        have HVA := Lib.hid (own_low hown (base' := w.heap.size) (by simp; omega))
        have HQX := Lib.hid hqa
        have HRX := Lib.hid (hrg.trans hplayq.symm)
        have HBX : Hid (Below w.heap.size w X) := HB.out.trans ((Kept.trans2 (Kept.alloc (Kept.refl _ _) _) hkp).below (by simp) (by omega))
        have HPL := Lib.hid hplay
        have HLA := Lib.hid hla
        have hsx := HBX.out.size
        have HJ := Lib.hid hjv
        clear hqa hrg hown hkp hrow hds KD KA hplay hplayq hlk hla hD hjv
        go_wp2_with (at_builtin; go_loud (refine wpList_append_oneN (us := [.int .i64 D.code, .bool D.merged, .slice Av la cv]) rfl _ _ 23 rfl w.heap.size _ 3 40 Try.underlying23 infoDone rfl (by decide) _ _ _ rfl rfl rfl HOW.out ?c1 rfl ?c4 ?c2 ?c3 ?_))
        case c1 => exact hsx
        case c2 => unfold maxLen; omega
        case c3 => omega
        case c4 => intro u hu; simp at hu; rcases hu with rfl | rfl | rfl <;> rfl
        intro v' w9 hown' hb9 hs9 hk9
        have KA9 : KeepT 117 X w9 := KeepT.of_own hk9 HOW.out (by decide)
        have HQ9 := Lib.hid (HQX.out.keep (hk9 _ HQX.out.blk.lt (fun he => by obtain ⟨cs', hh⟩ := own_type HOW.out he; have e := hh.symm.trans HQX.out.blk; injection e with e; injection e with _ e; exact absurd e (by decide))))
        have HDS9 := Lib.hid ((HDS.out.keep KA9).snoc (c := [.int .i64 D.code, .bool D.merged, .slice Av la cv]) (d := D) ⟨_, rfl, by rw [HLA.out]; exact own_keepT HVA.out KA9⟩)
        have HO9 := Lib.hid hown'
        have HB9 := Lib.hid (HBX.out.trans hb9)
        clear hown' hb9 hk9 KA9
        go_wp2
        go_roundw
        case rel =>
          refine ⟨k + 1, r', f', m', by omega, by go_num, HQ9.out, HRX.out, ⟨cs ++ [[.int .i64 D.code, .bool D.merged, .slice Av la cv]], ?_, ?_⟩, HB9.out⟩
          · have hl : (playD (l.take (k + 1)) []).length = k + 1 := by rw [playD_length, List.length_take, HZ.out]; omega
            rw [hl, List.flatMap_append]
            simpa using HO9.out
          · rw [HPL.out]; exact HDS9.out
        case measure => simp [intOf]; omega
      · obtain rfl : k = n := by omega
        go_wp2
        rw [← HP.out]
        refine ⟨fun h => absurd h h100, fun _ => ⟨_, rfl, ?_, HB.out⟩⟩
        have ht : l.take k = l := List.take_of_length_le (by rw [HZ.out]; omega)
        have := HRW.out
        rw [ht] at this
        exact ⟨this⟩

end Go.Proofs.Ytnflaaoapmhjgaa

namespace Go.Proofs.Ytnflaaoapmhjgaa
open Go.ChangeShapes Go.WideShapes Go.ChangeAt Go.RowKit


instance : DecidableEq ActV := fun a b => decidable_of_iff (a.kind = b.kind ∧ a.p = b.p ∧ a.hop = b.hop ∧ a.a.six = b.a.six ∧ a.a.hi = b.a.hi ∧ a.a.lo = b.a.lo) ⟨fun h => by
  obtain ⟨k, p, hop, ⟨s, x, y⟩⟩ := a
  obtain ⟨k', p', hop', ⟨s', x', y'⟩⟩ := b
  simp only at h
  obtain ⟨rfl, rfl, rfl, rfl, rfl, rfl⟩ := h
  rfl, fun h => by subst h; exact ⟨rfl, rfl, rfl, rfl, rfl, rfl⟩⟩
def ActV.val (r : ActV) : Value := .agg #[.int .i64 r.kind, .bool r.p.six, .int .u64 r.p.hi, .int .u64 r.p.lo, .int .i64 r.p.n, .int .i64 r.hop, .bool r.a.six, .int .u64 r.a.hi, .int .u64 r.a.lo]
set_option maxRecDepth 100000 in
/-- '==' on acts. -/
theorem eqActV (r r' : ActV) (w : World) : (Op.equalIn 10000 117 r.val r'.val).run Try.prog w = .ok (decide (r = r')) w := by
  obtain ⟨k, ⟨six, hi, lo, n⟩, h, ⟨s2, h2, l2⟩⟩ := r
  obtain ⟨k', ⟨six', hi', lo', n'⟩, h', ⟨s2', h2', l2'⟩⟩ := r'
  have hS : Try.prog.underlying 117 = some (.struct (Try.prog.fieldsOf 117)) := by kernel_rfl
  have hp : Try.prog.stoodInHeld 117 = false := by kernel_rfl
  have inner := fun w => eqPVd 9996 ⟨six, hi, lo, n⟩ ⟨six', hi', lo', n'⟩ w
  have inner2 := fun w => eqAV 9997 s2 h2 l2 s2' h2' l2' w
  have e : (decide ((⟨k, ⟨six, hi, lo, n⟩, h, ⟨s2, h2, l2⟩⟩ : ActV) = ⟨k', ⟨six', hi', lo', n'⟩, h', ⟨s2', h2', l2'⟩⟩)) = (k == k' && (decide ((⟨six, hi, lo, n⟩ : PV) = ⟨six', hi', lo', n'⟩) && (h == h' && (s2 == s2' && (h2 == h2' && l2 == l2'))))) := by
    rw [Bool.eq_iff_iff]
    simp
  rw [e]
  unfold ActV.val
  unfold PV.val at inner
  simp only at inner inner2 ⊢
  rw [show (10000 : Nat) = 9999 + 1 from rfl, run_equalIn_agg w 9999 117 _ _ hS hp]
  clear hS hp e
  generalize decide ((⟨six, hi, lo, n⟩ : PV) = ⟨six', hi', lo', n'⟩) = b at *
  generalize (s2 == s2' && (h2 == h2' && l2 == l2')) = b2 at *
  have a1 := Try.isAgg51
  have z1 := Try.sizeOf51
  have a2 := Try.isAgg3
  have z2 := Try.sizeOf3
  have a3 := Try.isAgg44
  have z3 := Try.sizeOf44
  simp only [Program.fieldsOf, Try.underlying117]
  go_simp
  by_cases h1 : k = k' <;> cases b <;> by_cases h4 : h = h' <;> cases b2 <;> simp [h1, h4]

theorem drew_more {w w1 : World} (h : ∃ d, w1 = w.drewN d) (n : Nat) : ∃ d, w1.drewN n = w.drewN d := by obtain ⟨d, rfl⟩ := h; exact ⟨_, World.drewN_drewN _ _ _⟩

set_option maxRecDepth 100000 in
set_option maxHeartbeats 800000 in
theorem sameActs_quiet (A A' : Option Addr) (n c n' c' : Nat) (l l' : List ActV) (w : World) (hz : l.length = n) (hz' : l'.length = n') (hm : n ≤ maxLen) (hm' : n' ≤ maxLen)
    (hr : Reads w w.heap.size 9 A n (l.flatMap ActV.cells)) (hr' : Reads w w.heap.size 9 A' n' (l'.flatMap ActV.cells)) :
    Calls Try.prog 22 #[.slice A n c, .slice A' n' c'] w fun e w' => e = .returned (.bool (decide (l = l'))) ∧ ∃ dd, w' = w.drewN dd := by
  unfold maxLen at hm hm'
  by_cases hnn : n = n'
  · subst hnn
    have HZ := Lib.hid hz
    have HZ' := Lib.hid hz'
    have HR := Lib.hid hr
    have HR' := Lib.hid hr'
    obtain ⟨d, hd⟩ : ∃ d, d = decide (l = l') := ⟨_, rfl⟩
    rw [← hd]
    have HD := Lib.hid hd
    clear hz hz' hr hr' hm' hd
    go_enter Try.func22, Try.ntmps22
    go_wp2
    go_loopw [5, 4] (fun i _ wr => ∃ k : Nat, k ≤ n ∧ i = .int .i64 k ∧ l.take k = l'.take k ∧ ∃ dd, wr = w.drewN dd) (fun i _ _ => n - (intOf i).toNat)
    case atStart => exact ⟨0, by omega, rfl, rfl, 0, rfl⟩
    case round =>
      obtain ⟨k, hk, rfl, hto, hd2⟩ := hrel
      have hb : Below w.heap.size w wr := by obtain ⟨dd, rfl⟩ := hd2; exact below_drewN (Below.refl _ _) dd
      have HD2 := Lib.hid hd2
      clear hd2
      have HT := Lib.hid hto
      clear hto
      by_cases hlt : k < n
      · obtain ⟨ad, ⟨kd, ⟨six, hi, lo, pn⟩, hop, ⟨s2, h2, l2⟩⟩, rfl, hlk, htk, hmem, hbk, hc0, hcj⟩ := HR.out.atS ActV.cells_length HZ.out hlt
        have q0 := (hb.cell (p := ad.add (k * 9)) (by rw [block_of_add]; exact hbk)).trans (hc0 _ rfl)
        have q1 := (hb.cell (p := ⟨(ad.add (k * 9)).block, (ad.add (k * 9)).off + 1, none⟩) (by rw [block_of_add]; exact hbk)).trans (hcj 1 _ rfl)
        have q2 := (hb.cell (p := ⟨(ad.add (k * 9)).block, (ad.add (k * 9)).off + 2, none⟩) (by rw [block_of_add]; exact hbk)).trans (hcj 2 _ rfl)
        have q3 := (hb.cell (p := ⟨(ad.add (k * 9)).block, (ad.add (k * 9)).off + 3, none⟩) (by rw [block_of_add]; exact hbk)).trans (hcj 3 _ rfl)
        have q4 := (hb.cell (p := ⟨(ad.add (k * 9)).block, (ad.add (k * 9)).off + 4, none⟩) (by rw [block_of_add]; exact hbk)).trans (hcj 4 _ rfl)
        have q5 := (hb.cell (p := ⟨(ad.add (k * 9)).block, (ad.add (k * 9)).off + 5, none⟩) (by rw [block_of_add]; exact hbk)).trans (hcj 5 _ rfl)
        have q6 := (hb.cell (p := ⟨(ad.add (k * 9)).block, (ad.add (k * 9)).off + 6, none⟩) (by rw [block_of_add]; exact hbk)).trans (hcj 6 _ rfl)
        have q7 := (hb.cell (p := ⟨(ad.add (k * 9)).block, (ad.add (k * 9)).off + 7, none⟩) (by rw [block_of_add]; exact hbk)).trans (hcj 7 _ rfl)
        have q8 := (hb.cell (p := ⟨(ad.add (k * 9)).block, (ad.add (k * 9)).off + 8, none⟩) (by rw [block_of_add]; exact hbk)).trans (hcj 8 _ rfl)
        have HL := Lib.hid hlk
        have HTK := Lib.hid htk
        clear hlk htk hmem hc0 hcj
        obtain ⟨ad', ⟨kd', ⟨six', hi', lo', pn'⟩, hop', ⟨s2', h2', l2'⟩⟩, rfl, hlk, htk, hmem, hbk', hc0, hcj⟩ := HR'.out.atS ActV.cells_length HZ'.out hlt
        have x0 := (hb.cell (p := ad'.add (k * 9)) (by rw [block_of_add]; exact hbk')).trans (hc0 _ rfl)
        have x1 := (hb.cell (p := ⟨(ad'.add (k * 9)).block, (ad'.add (k * 9)).off + 1, none⟩) (by rw [block_of_add]; exact hbk')).trans (hcj 1 _ rfl)
        have x2 := (hb.cell (p := ⟨(ad'.add (k * 9)).block, (ad'.add (k * 9)).off + 2, none⟩) (by rw [block_of_add]; exact hbk')).trans (hcj 2 _ rfl)
        have x3 := (hb.cell (p := ⟨(ad'.add (k * 9)).block, (ad'.add (k * 9)).off + 3, none⟩) (by rw [block_of_add]; exact hbk')).trans (hcj 3 _ rfl)
        have x4 := (hb.cell (p := ⟨(ad'.add (k * 9)).block, (ad'.add (k * 9)).off + 4, none⟩) (by rw [block_of_add]; exact hbk')).trans (hcj 4 _ rfl)
        have x5 := (hb.cell (p := ⟨(ad'.add (k * 9)).block, (ad'.add (k * 9)).off + 5, none⟩) (by rw [block_of_add]; exact hbk')).trans (hcj 5 _ rfl)
        have x6 := (hb.cell (p := ⟨(ad'.add (k * 9)).block, (ad'.add (k * 9)).off + 6, none⟩) (by rw [block_of_add]; exact hbk')).trans (hcj 6 _ rfl)
        have x7 := (hb.cell (p := ⟨(ad'.add (k * 9)).block, (ad'.add (k * 9)).off + 7, none⟩) (by rw [block_of_add]; exact hbk')).trans (hcj 7 _ rfl)
        have x8 := (hb.cell (p := ⟨(ad'.add (k * 9)).block, (ad'.add (k * 9)).off + 8, none⟩) (by rw [block_of_add]; exact hbk')).trans (hcj 8 _ rfl)
        have HL' := Lib.hid hlk
        have HTK' := Lib.hid htk
        have HEQ := fun w => eqActV ⟨kd, ⟨six, hi, lo, pn⟩, hop, ⟨s2, h2, l2⟩⟩ ⟨kd', ⟨six', hi', lo', pn'⟩, hop', ⟨s2', h2', l2'⟩⟩ w
        have HBO := Lib.hid hb
        clear hlk htk hmem hc0 hcj hb
        by_cases he : (⟨kd, ⟨six, hi, lo, pn⟩, hop, ⟨s2, h2, l2⟩⟩ : ActV) = ⟨kd', ⟨six', hi', lo', pn'⟩, hop', ⟨s2', h2', l2'⟩⟩
        · have HN : Hid (l.take (k + 1) = l'.take (k + 1)) := by show _ = _; rw [HTK.out, HTK'.out, HT.out, he]
          rw [decide_eq_true he] at HEQ
          unfold ActV.val at HEQ
          simp only at HEQ
          clear he
          go_wp2
          go_quiet (fail)
          go_wp2
          go_roundw
          case rel => exact ⟨k + 1, by omega, by go_num, HN.out, drew_more HD2.out _⟩
          case measure => simp [intOf]; omega
        · have HN : Hid (d = false) := by
            show _ = _
            rw [HD.out, decide_eq_false_iff_not]
            intro h
            subst h
            rw [HL.out] at HL'
            have := HL'.out
            injection this with this
            exact he this
          rw [decide_eq_false he] at HEQ
          unfold ActV.val at HEQ
          simp only at HEQ
          clear he
          go_wp2
          go_quiet (fail)
          go_wp2
          go_ret
          exact ⟨by rw [HN.out]; rfl, drew_more HD2.out _⟩
      · obtain rfl : k = n := by omega
        have HN : Hid (d = true) := by
          show _ = _
          rw [HD.out, decide_eq_true_iff]
          have := HT.out
          rwa [List.take_of_length_le (by rw [HZ.out]; omega), List.take_of_length_le (by rw [HZ'.out]; omega)] at this
        go_wp2
        go_ret
        exact ⟨by rw [HN.out]; rfl, HD2.out⟩
  · have hd : decide (l = l') = false := by rw [decide_eq_false_iff_not]; intro h; subst h; omega
    rw [hd]
    have hne : ¬ (n : Int) = n' := by omega
    clear hz hz' hr hr' hd
    go_enter Try.func22, Try.ntmps22
    go_wp2
    go_ret
    exact ⟨rfl, 0, rfl⟩

end Go.Proofs.Ytnflaaoapmhjgaa

namespace Go.Proofs.Ytnflaaoapmhjgaa
open Go.ChangeShapes Go.WideShapes Go.ChangeAt Go.RowKit

structure DoneC where
  code : Int
  merged : Bool
  A : Option Addr
  n : Nat
  c : Nat
def DoneC.cells (e : DoneC) : List Value := [.int .i64 e.code, .bool e.merged, .slice e.A e.n e.c]
theorem DoneC.cells_length (e : DoneC) : e.cells.length = 3 := rfl
/-- A laid result and what it stands for. -/
structure DoneC.For (e : DoneC) (w : World) (d : DoneV) : Prop where
  code : e.code = d.code
  merged : e.merged = d.merged
  len : d.acts.length = e.n
  cap : e.n ≤ maxLen
  reads : Reads w w.heap.size 9 e.A e.n (d.acts.flatMap ActV.cells)
theorem RowsD.shape {w : World} {base : Nat} : ∀ {cs : List (List Value)} {ds : List DoneV}, RowsD w base cs ds → ∃ es : List DoneC, cs = es.map DoneC.cells ∧ es.length = ds.length ∧ ∀ (k : Nat) (e : DoneC) (d : DoneV), es[k]? = some e → ds[k]? = some d → e.For w d
  | [], [], _ => ⟨[], rfl, rfl, fun k e d h => by simp at h⟩
  | c :: cs, d :: ds, ⟨⟨v, h1, h2⟩, h3⟩ => by
    obtain ⟨es, rfl, hl, hall⟩ := h3.shape
    obtain ⟨A, cp, rfl, ⟨hc1, hc2⟩, hr⟩ := own_reads h2
    refine ⟨⟨d.code, d.merged, A, d.acts.length, cp⟩ :: es, by rw [h1]; rfl, by simp [hl], fun k e d' he hd => ?_⟩
    cases k with
    | zero =>
      simp at he hd
      subst he hd
      exact ⟨rfl, rfl, rfl, Nat.le_trans hc1 hc2, hr⟩
    | succ k => exact hall k e d' (by simpa using he) (by simpa using hd)
theorem DonesAt.shape {w : World} {base : Nat} {v : Value} {ds : List DoneV} (h : DonesAt w base v ds) : ∃ (A : Option Addr) (c : Nat) (es : List DoneC), v = .slice A ds.length c ∧ es.length = ds.length ∧ Reads w w.heap.size 3 A ds.length (es.flatMap DoneC.cells) ∧ ∀ (k : Nat) (e : DoneC) (d : DoneV), es[k]? = some e → ds[k]? = some d → e.For w d := by
  obtain ⟨cs, h1, h2⟩ := h.rows
  obtain ⟨es, rfl, hl, hall⟩ := h2.shape
  obtain ⟨A, c, rfl, -, hr⟩ := own_reads h1
  rw [List.flatMap_map] at hr
  exact ⟨A, c, es, rfl, hl, hr, hall⟩
theorem DonesAt.below {w w' : World} {base : Nat} {v : Value} {ds : List DoneV} (h : DonesAt w base v ds) (hb : Below w.heap.size w w') : DonesAt w' base v ds := by
  obtain ⟨cs, h1, h2⟩ := h.rows
  exact ⟨cs, own_below h1 hb, h2.keep fun g cs hg => hb.block g (Array.getElem?_eq_some_iff.1 hg).1⟩
def outD (n : Nat) (l : List JobV) : List DoneV := if 100 < n then [] else playD l []
def outE (n : Nat) : Int := if 100 < n then 1 else 0
theorem played_uni {w w' : World} {n : Nat} {l : List JobV} {e : Ending} (h : PlayedJ w n l e w') : ∃ v, e = .returned (.tuple #[v, .int .i64 (outE n)]) ∧ DonesAt w' w.heap.size v (outD n l) ∧ Below w.heap.size w w' := by
  unfold outD outE
  by_cases hn : 100 < n
  · rw [if_pos hn, if_pos hn]
    obtain ⟨h1, h2⟩ := h.1 hn
    exact ⟨_, h1, ⟨[], World.ownsRow_nil _ _ _ _, trivial⟩, h2⟩
  · rw [if_neg hn, if_neg hn]
    exact h.2 hn
theorem IsJobs.below {w w' : World} {A : Option Addr} {n : Nat} {l : List JobV} (h : IsJobs w A n l) (hb : Below w.heap.size w w') : IsJobs w' A n l := ⟨h.len, (h.reads.below hb).more hb.size, h.ok⟩
set_option maxRecDepth 100000 in
theorem open_jobs {H : Type} {enc : TypeId × Value → H} {W : World} {base : Nat} {sp : Nat → Bool} {held : Bool} {a0 : Option Addr} {len0 cap0 : Nat} {d : DataW H} {p : List MemPlace}
    (h : DataW.Trod enc Try.prog W base sp held 22 (.slice a0 len0 cap0) d p) : ∃ l : List JobV, IsJobs W a0 len0 l ∧ len0 ≤ cap0 ∧ cap0 ≤ maxLen := by
  have hk : flat Try.prog 9 122 = some [some .i64, some .i64, none, some .u64, some .u64, some .i64, some .i64, none, some .u64, some .u64, some .i64] := by kernel_rfl
  obtain ⟨css, hcl, hfit, hr, hl, hm⟩ := open_flats Try.underlying22 hk (by kernel_rfl) (by simp) h
  obtain ⟨l, rfl, hz⟩ := choose_list (f := JobV.cells) (Q := fun j => (0 ≤ j.act.p.hi ∧ j.act.p.hi < 18446744073709551616) ∧ (0 ≤ j.act.p.lo ∧ j.act.p.lo < 18446744073709551616)) css (fun cs hc => by
    have hf := hfit cs hc
    clear hr hcl hfit
    obtain ⟨jk, _, rfl, _, hf1⟩ := hf.int_inv
    obtain ⟨kd, _, rfl, _, hf2⟩ := hf1.int_inv
    obtain ⟨six, _, rfl, hf3⟩ := hf2.bool_inv
    obtain ⟨hi, _, rfl, wy, hf4⟩ := hf3.int_inv
    obtain ⟨lo, _, rfl, wz, hf5⟩ := hf4.int_inv
    obtain ⟨m, _, rfl, _, hf6⟩ := hf5.int_inv
    obtain ⟨hop, _, rfl, _, hf7⟩ := hf6.int_inv
    obtain ⟨six2, _, rfl, hf8⟩ := hf7.bool_inv
    obtain ⟨hi2, _, rfl, _, hf9⟩ := hf8.int_inv
    obtain ⟨lo2, _, rfl, _, hf10⟩ := hf9.int_inv
    obtain ⟨jn, _, rfl, _, hf11⟩ := hf10.int_inv
    obtain rfl := hf11.nil_inv
    exact ⟨⟨jk, ⟨kd, ⟨six, hi, lo, m⟩, hop, ⟨six2, hi2, lo2⟩⟩, jn⟩, ⟨range_u64 wy, range_u64 wz⟩, rfl⟩)
  exact ⟨l, ⟨by simpa using hcl, by rw [List.flatMap_def]; exact hr, hz⟩, hl, hm⟩

set_option maxRecDepth 100000 in
set_option maxHeartbeats 1600000 in
theorem queuePlays_core {W : World} {a0 : Option Addr} {n c : Nat} {l : List JobV} (hr : IsJobs W a0 n l) (hc : n ≤ c ∧ c ≤ maxLen)
    (hRef : ∀ w, Below W.heap.size W w → Calls Try.prog 21 #[.slice a0 n c] w (PlayedJ w n l)) :
    Calls Try.prog 3 #[.slice a0 n c] W fun e W' => e = .returned (.bool true) ∧ Below W.heap.size W W' := by
  have C1 := Lib.hid (fun (w : World) (hb : Below W.heap.size W w) => play_any (hr.below hb) hc)
  have C2 := Lib.hid hRef
  have hlen : (outD n l).length ≤ 100 := by
    unfold outD
    by_cases h : 100 < n
    · rw [if_pos h]; exact Nat.zero_le _
    · rw [if_neg h, playD_length, hr.len]; omega
  clear hr hRef hc
  go_enter Try.func3, Try.ntmps3
  go_wp2_with fail
  refine (C1.out _ (Below.refl _ _)).mono ?_
  intro e w1 hp1
  obtain ⟨v1, rfl, hd1, hb1⟩ := played_uni hp1
  obtain ⟨A1, c1, es1, rfl, -, -, -⟩ := hd1.shape
  have HD1 := Lib.hid hd1
  have HB1 := Lib.hid hb1
  clear hp1 hd1 hb1
  go_wp2_with fail
  refine (C2.out _ HB1.out).mono ?_
  intro e w2 hp2
  obtain ⟨v2, rfl, hd2, hb2⟩ := played_uni hp2
  obtain ⟨A2, c2, es2, rfl, hl2, hr2, hf2⟩ := hd2.shape
  obtain ⟨_, _, es1, e1, hl1, hr1, hf1⟩ := (HD1.out.below hb2).shape
  injection e1 with e1 e2 e3
  subst e1 e3
  have HB2 := Lib.hid (below_step HB1.out hb2)
  obtain ⟨ds, hds⟩ : ∃ ds, outD n l = ds := ⟨_, rfl⟩
  rw [hds] at hl1 hl2 hr1 hr2 hf1 hf2 hlen ⊢
  obtain ⟨N, hN⟩ : ∃ N, ds.length = N := ⟨_, rfl⟩
  rw [hN] at hl1 hl2 hr1 hr2 hlen ⊢
  have HN := Lib.hid hN
  have HL1 := Lib.hid hl1
  have HL2 := Lib.hid hl2
  have HR1 := Lib.hid hr1
  have HR2 := Lib.hid hr2
  have HF1 := Lib.hid hf1
  have HF2 := Lib.hid hf2
  obtain ⟨EE, hE⟩ : ∃ EE, outE n = EE := ⟨_, rfl⟩
  rw [hE]
  clear hp2 hd2 hb2 hds hN hl1 hl2 hr1 hr2 hf1 hf2 HD1 hE e2 C1 C2
  go_wp2
  go_loopw [7] (fun i wr => ∃ k : Nat, k ≤ N ∧ i = .int .i64 k ∧ Below w2.heap.size w2 wr) (fun i _ => N - (intOf i).toNat)
  case atStart => exact ⟨0, by omega, rfl, Below.refl _ _⟩
  case round =>
    obtain ⟨k, hk, rfl, hb⟩ := hrel
    obtain ⟨wo, rfl⟩ : ∃ wo : World, wo = wr := ⟨_, rfl⟩
    have HB := Lib.hid hb
    by_cases hlt : k < N
    · obtain ⟨ad, ⟨cd, mg, Aa, na, ca⟩, rfl, hlk, htk, hmem, hbk, hc0, hcj⟩ := HR1.out.atS DoneC.cells_length HL1.out hlt
      have q0 := (hb.cell (p := ad.add (k * 3)) (by rw [block_of_add]; exact hbk)).trans (hc0 _ rfl)
      have q1 := (hb.cell (p := ⟨(ad.add (k * 3)).block, (ad.add (k * 3)).off + 1, none⟩) (by rw [block_of_add]; exact hbk)).trans (hcj 1 _ rfl)
      have q2 := (hb.cell (p := ⟨(ad.add (k * 3)).block, (ad.add (k * 3)).off + 2, none⟩) (by rw [block_of_add]; exact hbk)).trans (hcj 2 _ rfl)
      have hlk1 := hlk
      clear hlk htk hmem hc0 hcj
      obtain ⟨ad', ⟨cd', mg', Ab, nb, cb⟩, rfl, hlk, htk, hmem, hbk', hc0, hcj⟩ := HR2.out.atS DoneC.cells_length HL2.out hlt
      have x0 := (hb.cell (p := ad'.add (k * 3)) (by rw [block_of_add]; exact hbk')).trans (hc0 _ rfl)
      have x1 := (hb.cell (p := ⟨(ad'.add (k * 3)).block, (ad'.add (k * 3)).off + 1, none⟩) (by rw [block_of_add]; exact hbk')).trans (hcj 1 _ rfl)
      have x2 := (hb.cell (p := ⟨(ad'.add (k * 3)).block, (ad'.add (k * 3)).off + 2, none⟩) (by rw [block_of_add]; exact hbk')).trans (hcj 2 _ rfl)
      have hd : ds[k]? = some (ds[k]'(by rw [HN.out]; exact hlt)) := List.getElem?_eq_getElem _
      obtain ⟨D, hD⟩ : ∃ D, ds[k]'(by rw [HN.out]; exact hlt) = D := ⟨_, rfl⟩
      rw [hD] at hd
      have F1 := HF1.out k _ D hlk1 hd
      have F2 := HF2.out k _ D hlk hd
      obtain rfl : cd = cd' := F1.code.trans F2.code.symm
      obtain rfl : mg = mg' := F1.merged.trans F2.merged.symm
      have CS := Lib.hid (fun dd => sameActs_quiet Aa Ab na ca nb cb D.acts D.acts (wo.drewN dd) F1.len F2.len F1.cap F2.cap ((((F1.reads.below HB.out).more HB.out.size)).drewN dd) ((((F2.reads.below HB.out).more HB.out.size)).drewN dd))
      rw [decide_eq_true rfl] at CS
      clear hlk htk hmem hc0 hcj hlk1 hd hD F1 F2 hb
      go_wp2
      go_quiet ((go_at_call 22; exact Calls.quiet_of (CS.out _)))
      go_wp2
      go_roundw
      case rel => exact ⟨k + 1, by omega, by go_num, below_drewN HB.out _⟩
      case measure => simp [intOf]; omega
    · obtain rfl : k = N := by omega
      go_wp2
      go_ret
      exact ⟨rfl, below_step HB2.out HB.out⟩

end Go.Proofs.Ytnflaaoapmhjgaa

namespace Go.Proofs.Ytnflaaoapmhjgaa
open Go.ChangeShapes Go.WideShapes Go.ChangeAt Go.RowKit

theorem Reads.front {w : World} {B size : Nat} {A : Option Addr} {n k : Nat} {α : Type} {f : α → List Value} {l : List α} (hf : ∀ x, (f x).length = size) (h : Reads w B size A n (l.flatMap f)) (hz : l.length = n) (hk : k ≤ n) : Reads w B size A k ((l.take k).flatMap f) := by
  have hlen : ∀ l : List α, (l.flatMap f).length = l.length * size := by
    intro l
    induction l with
    | nil => simp
    | cons x l ih => rw [List.flatMap_cons, List.length_append, hf, ih, List.length_cons, Nat.add_mul]; omega
  refine ⟨by rw [hlen, List.length_take, hz, Nat.min_eq_left hk], fun h0 => ?_⟩
  obtain ⟨ad, rfl, hb, hc⟩ := h.2 (by omega)
  refine ⟨ad, rfl, hb, fun j u hu => hc j u ?_⟩
  have e : l.flatMap f = (l.take k).flatMap f ++ (l.drop k).flatMap f := by rw [← List.flatMap_append, List.take_append_drop]
  rw [e]
  rw [List.getElem?_append_left]
  · exact hu
  · exact (List.getElem?_eq_some_iff.1 hu).1

end Go.Proofs.Ytnflaaoapmhjgaa

namespace Go.Proofs.Ytnflaaoapmhjgaa
open Go.ChangeShapes Go.WideShapes Go.ChangeAt Go.RowKit

theorem step_append_far {P : Program} {ops : Array Oper} {o : Oper} {a : Act} {w : World} {K : Act → World → Prop} {Q : Exit → Act → World → Prop} {E : Prop} (hgd : o.guard = none) (s x : Operand) (t : TypeId)
    (ho : o.op = .call { callee := .builtin .append, args := #[s, x], argTypes := #[t, t] })
    (base : Nat) (e : TypeId) (z : Value) (size bytes : Nat) (ht : P.underlying t = some (.slice e)) (hi : (P.info? e).map (fun i => (i.zero, i.size, i.bytes)) = some (some z, size, bytes))
    (hzs : z.cells.size = size) (hsz : 0 < size)
    (v : Value) (n : Nat) (xs : List Value) (hs : a.eval s = v) (hown : w.ownsRow base e size v n xs)
    (B : Nat) (A : Option Addr) (m c : Nat) (news : List Value) (hx : a.eval x = .slice A m c) (hr : Reads w B size A m news) (h1 : ∀ u ∈ news, u.oneCell' = true)
    (h63 : n + m ≤ maxLen) (hbytes : (n + m) * bytes ≤ 140737488355328) (hbase : base ≤ w.heap.size)
    (h : ∀ v' w', w'.ownsRow base e size v' (n + m) (xs ++ news) → Below base w w' → w.grownBy w' v.ownBlock → K (a.put o.dst v') w') :
    if Region.wanted o (yielded ops a.tmps) = true then Oper.wp P o a w K Q else E := by
  obtain ⟨i0, hi, hz0, hz1, hz2⟩ := info_parts hi
  refine step_append_any w hgd s x t ho base e i0 z size bytes ht hi hz0 hz1 hz2 hzs hsz v n xs hs hown B A m c news hx hr h1 h63 hbytes hbase fun v' w' h2 h3 _ => h v' w' h2 ((Below.refl _ _).grown h3 hbase ?_) h3
  intro k hk
  rcases hown.2 with ⟨rfl, _⟩ | ⟨g, cap, cur, rfl, hgb, _⟩
  · simp [Value.ownBlock] at hk
  · simp only [Value.ownBlock, Option.some.injEq] at hk
    omega
theorem step_append_farI {P : Program} {ops : Array Oper} {o : Oper} {a : Act} {w : World} {K : Act → World → Prop} {Q : Exit → Act → World → Prop} {E : Prop} {s x : Operand} (us : List Value) (m : Nat) (t : TypeId) (n : Nat) (xs : List Value) (hgd : o.guard = none)
    (ho : o.op = .call { callee := .builtin .append, args := #[s, x], argTypes := #[t, t] })
    (base : Nat) (e : TypeId) (z : Value) (size bytes : Nat) (ht : P.underlying t = some (.slice e)) (hi : (P.info? e).map (fun i => (i.zero, i.size, i.bytes)) = some (some z, size, bytes))
    (hzs : z.cells.size = size) (hsz : 0 < size)
    (hown : w.ownsRow base e size (a.eval s) n xs) (hx : ∃ A c, a.eval x = .slice A m c ∧ Reads w w.heap.size size A m us) (h1 : ∀ u ∈ us, u.oneCell' = true)
    (h63 : n + m ≤ maxLen) (hbytes : (n + m) * bytes ≤ 140737488355328) (hbase : base ≤ w.heap.size)
    (h : ∀ v' w', w'.ownsRow base e size v' (n + m) (xs ++ us) → Below base w w' → w.grownBy w' (a.eval s).ownBlock → K (a.put o.dst v') w') :
    if Region.wanted o (yielded ops a.tmps) = true then Oper.wp P o a w K Q else E := by
  obtain ⟨A, c, hx, hr⟩ := hx
  exact step_append_far hgd s x t ho base e z size bytes ht hi hzs hsz _ n xs rfl hown _ A m c us hx hr h1 h63 hbytes hbase h
theorem reads_new {w : World} {us : List Value} {e : TypeId} {fr : Nat × Nat} {size : Nat} (hl : us.length = size) :
    Reads (w.alloc (.cells us.toArray e fr)) (w.alloc (.cells us.toArray e fr)).heap.size size (some ⟨w.heap.size, 0, none⟩) 1 us := by
  refine ⟨by simp [hl], fun _ => ⟨_, rfl, by simp, fun j u hj => ?_⟩⟩
  have e1 : (⟨w.heap.size, 0, none⟩ : Addr).add j = ⟨w.heap.size, j, none⟩ := by unfold Addr.add; split <;> simp_all
  rw [e1]
  have : (w.alloc (.cells us.toArray e fr)).heap[w.heap.size]? = some (.cells us.toArray e fr) := heap_alloc_new w _
  unfold World.cell?
  simp only [this]
  simpa using hj

theorem reads_new_old {w w' : World} {us : List Value} {e : TypeId} {fr : Nat × Nat} {size : Nat} (hl : us.length = size) (hb : Below (w.alloc (.cells us.toArray e fr)).heap.size (w.alloc (.cells us.toArray e fr)) w') :
    Reads w' w'.heap.size size (some ⟨w.heap.size, 0, none⟩) 1 us := ((reads_new (w := w) (e := e) (fr := fr) hl).below hb).more hb.size
theorem reads_new_oldD {w w' : World} {us : List Value} {e : TypeId} {fr : Nat × Nat} {size : Nat} (hl : us.length = size) (hb : Below (w.alloc (.cells us.toArray e fr)).drew.heap.size (w.alloc (.cells us.toArray e fr)).drew w') :
    Reads w' w'.heap.size size (some ⟨w.heap.size, 0, none⟩) 1 us := reads_new_old hl (below_step ((Below.refl _ _).drew) hb)
theorem step_append_nilI {P : Program} {ops : Array Oper} {o : Oper} {a : Act} {w : World} {K : Act → World → Prop} {Q : Exit → Act → World → Prop} {E : Prop} {s x : Operand} (us : List Value) (m : Nat) (t : TypeId) (hgd : o.guard = none)
    (ho : o.op = .call { callee := .builtin .append, args := #[s, x], argTypes := #[t, t] })
    (base : Nat) (e : TypeId) (z : Value) (size bytes : Nat) (ht : P.underlying t = some (.slice e)) (hi : (P.info? e).map (fun i => (i.zero, i.size, i.bytes)) = some (some z, size, bytes))
    (hzs : z.cells.size = size) (hsz : 0 < size)
    (hs : a.eval s = .slice none 0 0) (hx : ∃ A c, a.eval x = .slice A m c ∧ Reads w w.heap.size size A m us) (h1 : ∀ u ∈ us, u.oneCell' = true)
    (h63 : m ≤ maxLen) (hbytes : m * bytes ≤ 140737488355328) (hbase : base ≤ w.heap.size)
    (h : ∀ v' w', w'.ownsRow base e size v' m us → Below w.heap.size w w' → K (a.put o.dst v') w') :
    if Region.wanted o (yielded ops a.tmps) = true then Oper.wp P o a w K Q else E := by
  obtain ⟨A, c, hx, hr⟩ := hx
  exact step_append_nil hgd s x t ho base e z size bytes ht hi hzs hsz hs _ A m c us hx hr h1 h63 hbytes hbase h

end Go.Proofs.Ytnflaaoapmhjgaa
