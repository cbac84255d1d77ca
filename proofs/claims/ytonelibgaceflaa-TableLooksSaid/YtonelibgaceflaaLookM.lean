
/-
  Proved here: the contract of Table.Look.
-/
import Derived.Test.YtonelibgaceflaaLookT
import Derived.Test.YtonelibgaceflaaNumPlain
namespace Go.Proofs.Ytonelibgaceflaa
open Go.ChangeShapes Go.WideShapes Go.ChangeAt Go.RowKit

theorem addr_pfx {a : AV} (h : a.Ok) : PV.Ok ⟨a.six, a.hi, a.lo, wideI a.six⟩ := by
  refine ⟨h.rhi, h.rlo, h.may, ⟨by have := wideI_le a.six; simp only; omega, Int.le_refl _⟩, ?_⟩
  have := (clean_num h (n := widN a.six) (Nat.le_refl _)).2 (by rw [Nat.sub_self]; exact Nat.one_dvd _)
  simp only [widN_eq]
  exact this

theorem stop_look {p : PV} {t : Tr} {acc : Int × Int} (h : Stop p t) : lookT p t acc = match t with
    | .nil => acc
    | .node _ q h _ _ => if q.over p = false then acc else if q = p then (if h = 0 then acc else (h, q.n)) else acc := by
  cases t with
  | nil => rfl
  | node g q h l r =>
    unfold lookT
    by_cases h1 : q.over p = false
    · rw [if_pos h1]; simp only; rw [if_pos h1]
    · rw [if_neg h1]
      by_cases h2 : q = p
      · rw [if_pos h2]; simp only; rw [if_neg h1, if_pos h2]
      · rcases h with h | h
        · exact absurd h h2
        · exact absurd h h1

theorem Kept.frozenK {S : List Nat} {w w' : World} (h : Kept S w w') {p : Addr} (hp : p.block < w.heap.size) (hS : p.block ∉ S) : w'.frozen? p = w.frozen? p := World.frozen?_of_block (h.block _ hp hS)
theorem below_drewN_left {w w' : World} {B k : Nat} (h : Below B (w.drewN k) w') : Below B w w' := (below_drewN (Below.refl _ _) k).trans h
theorem Blk.keep1 {S : List Nat} {w w' : World} {g : Nat} {t : TypeId} {cs : Array Value} (h : Blk w g t cs) (hk : Kept S w w') (hS : g ∉ S) : Blk w' g t cs := (hk.block g h.lt hS).trans h

set_option maxRecDepth 100000 in
set_option maxHeartbeats 1600000 in
theorem tlook_any {w : World} {B tb : Nat} {R : Bool → Tr} {c : Int} (h : Tab w B tb R c) (hI : ∀ s, Inv s (fun _ => True) (R s)) (six : Bool) (hi lo : Int) (ha : AV.Ok ⟨six, hi, lo⟩) :
    Calls Try.prog 76 #[.pointer (some ⟨tb, 0, none⟩), .agg #[.bool six, .int .u64 hi, .int .u64 lo]] w fun e w' =>
      e = .returned (.agg #[.int .i64 0, .int .i64 (lookT ⟨six, hi, lo, wideI six⟩ (R six) (0, 0)).1, .int .i64 (lookT ⟨six, hi, lo, wideI six⟩ (R six) (0, 0)).2]) ∧ Below w.heap.size w w' := by
  have HT := Lib.hid h
  have HI := Lib.hid hI
  have HP := Lib.hid (addr_pfx ha)
  have CW : Hid (∀ w, Calls Try.prog 150 #[.bool six] w fun e w' => e = .returned (.int .i64 (wideI six)) ∧ Below w.heap.size w w') := fun w => (wide_any six w).mono fun e w' h => ⟨h.1, by rw [← h.2]; exact Below.refl _ _⟩
  simp only at HP
  obtain ⟨wd, hwd⟩ : ∃ wd, wideI six = wd := ⟨_, rfl⟩
  rw [hwd] at HP CW
  rw [hwd]
  have htl := h.blk.lt
  clear h hI ha
  go_enter Try.func76, Try.ntmps76
  go_wp2_with fail
  obtain ⟨X, hX⟩ : ∃ X, (((w.alloc (.cells #[.bool six, .int .u64 hi, .int .u64 lo] 24)).alloc (.cells #[.int .i64 0, .int .i64 0, .int .i64 0] 39)).alloc (.cells #[.int .i64 0, .int .i64 0, .int .i64 0] 39)) = X := ⟨_, rfl⟩
  have kA : Blk X w.heap.size 24 #[.bool six, .int .u64 hi, .int .u64 lo] := by rw [← hX]; exact ((Blk.new _ _ _).alloc _).alloc _
  have kR : Blk X (w.heap.size + 1) 39 #[.int .i64 0, .int .i64 0, .int .i64 0] := by
    rw [← hX]
    have := (Blk.new (w.alloc (.cells #[.bool six, .int .u64 hi, .int .u64 lo] 24)) 39 #[.int .i64 0, .int .i64 0, .int .i64 0])
    simp only [World.size_alloc] at this
    exact this.alloc _
  have kO : Blk X (w.heap.size + 2) 39 (NoteCs (0, 0)) := by
    rw [← hX]
    have := (Blk.new ((w.alloc (.cells #[.bool six, .int .u64 hi, .int .u64 lo] 24)).alloc (.cells #[.int .i64 0, .int .i64 0, .int .i64 0] 39)) 39 #[.int .i64 0, .int .i64 0, .int .i64 0])
    simp only [World.size_alloc] at this
    exact this
  have hXs : X.heap.size = w.heap.size + 3 := by rw [← hX]; simp
  have hXb : Below w.heap.size w X := by rw [← hX]; exact ((((Below.refl _ _).alloc (Nat.le_refl _) _).alloc (by simp) _).alloc (by simp; omega) _)
  try simp only [World.size_alloc]
  rw [hX]
  have x0 := kA.cell 0
  have x1 := kA.cell 1
  have x2 := kA.cell 2
  simp at x0 x1 x2
  have hxl : w.heap.size < X.heap.size := by omega
  have hxl1 : w.heap.size + 1 < X.heap.size := by omega
  have hxl2 : w.heap.size + 1 + 1 < X.heap.size := by omega
  have HXS := Lib.hid hXs
  have HA := Lib.hid kA
  have HRR := Lib.hid kR
  have HOO := Lib.hid kO
  have HXB := Lib.hid hXb
  clear kA kR kO hXb hX hXs
  go_cut [6] (fun v wx => NewPfx X ⟨six, hi, lo, wd⟩ v wx)
  case first =>
    go_region_held3 (fun w' => (∀ b o, b < X.heap.size → w'.cell? ⟨b, o, none⟩ = X.cell? ⟨b, o, none⟩) ∧ X.heap.size ≤ w'.heap.size ∧ Hid (Below X.heap.size X w'))
      ((first | assumption | exact keep0 _ | (refine keepF ?_; (repeat' first | with_reducible exact HB3.out | with_reducible exact Below.refl _ _ | with_reducible refine Below.drew ?_ | with_reducible refine below_drewN ?_ _ | with_reducible refine Below.setCell ?_ ?_ _ | with_reducible refine Below.alloc ?_ ?_ _ | exact HB3.out.size | (simp; done) | (simp; have := HB3.out.size; omega) | (simp; omega)); done)))
      (first | (go_at_call 150; refine (CW.out _).mono ?_; rintro e w3 ⟨rfl, hb3⟩; obtain ⟨fc3, ff3⟩ := bcell hb3; have hz3 := hb3.size; have HB3 : Hid (Below X.heap.size X w3) := (keepBelow (by assumption)).trans (hb3.mono (keepSize (by assumption)))))
    all_goals
      go_wp2_with fail
      go_meet
      first
        | with_reducible exact newPfx_A HB3.out
        | exact newPfx_B hb3 rfl HB3.out
  case rest =>
    obtain ⟨G, rfl, hg, hk, hbx⟩ := hcut
    have g0 := hk.cell 0
    have g1 := hk.cell 1
    have g2 := hk.cell 2
    have g3 := hk.cell 3
    simp at g0 g1 g2 g3
    have HKG := Lib.hid hk
    have hTX : Tab wc B tb R c := HT.out.below (HXB.out.trans (hbx.mono (by omega)))
    have hXc := hbx.size
    have hno : (w.heap.size + 1 + 1) ∉ tabBlocks tb R := fun hx => by have := (HT.out.lt _ hx).2; omega
    have CP := Lib.hid (place_note hTX ⟨six, hi, lo, wd⟩ HP.out HI.out hno (HOO.out.below hbx (by omega)))
    have HTX := Lib.hid hTX
    have HBX := Lib.hid hbx
    unfold PV.val at CP
    simp only at CP
    clear hk hbx hTX hno
    go_wp2_with fail
    refine CP.out.mono ?_
    rintro e w2 ⟨C, cur, acc, hR, hon, hst, rfl, hkp, hbo, hlk⟩
    simp only at hR hon hst hlk
    have hgo : ¬ G = w.heap.size + 1 + 1 := HKG.out.ne_ (HOO.out.below HBX.out hxl2) (by decide)
    have hk2 : Blk w2 G 35 #[.bool six, .int .u64 hi, .int .u64 lo, .int .i64 wd] := (hkp.block G HKG.out.lt (by simp; exact hgo)).trans HKG.out
    have g0 := hk2.cell 0
    have g1 := hk2.cell 1
    have g2 := hk2.cell 2
    have g3 := hk2.cell 3
    simp at g0 g1 g2 g3
    have hT2 : Tab w2 B tb R c := HTX.out.keep (fun k hk => hkp.block k (HTX.out.lt k hk).2 (by simp; intro he; subst he; have := (HT.out.lt _ hk).2; omega))
    have hs := (hT2.slot hR).1
    have o0 := hbo.cell 0
    have o1 := hbo.cell 1
    have o2 := hbo.cell 2
    simp [NoteCs] at o0 o1 o2
    have hsz2 : X.heap.size ≤ w2.heap.size := by have := hkp.size; omega
    have f0 : w2.frozen? ⟨w.heap.size + 1, 0, none⟩ = false := ((HRR.out.below HBX.out hxl1).keep1 hkp (by simp)).frozen 0
    have f1 : w2.frozen? ⟨w.heap.size + 1, 1, none⟩ = false := ((HRR.out.below HBX.out hxl1).keep1 hkp (by simp)).frozen 1
    have f2 : w2.frozen? ⟨w.heap.size + 1, 2, none⟩ = false := ((HRR.out.below HBX.out hxl1).keep1 hkp (by simp)).frozen 2
    have r0 := ((HRR.out.below HBX.out hxl1).keep1 hkp (by simp)).cell 0
    have r1 := ((HRR.out.below HBX.out hxl1).keep1 hkp (by simp)).cell 1
    have r2 := ((HRR.out.below HBX.out hxl1).keep1 hkp (by simp)).cell 2
    simp at r0 r1 r2
    have HB2 : Hid (Below w.heap.size w w2) := HXB.out.trans ((HBX.out.mono (by omega)).trans (hkp.below (by simp; omega) (by omega)))
    have HBO := Lib.hid hbo
    have HL := Lib.hid hlk
    cases cur with
    | nil =>
      have HL2 : Hid (lookT ⟨six, hi, lo, wd⟩ (R six) (0, 0) = acc) := hlk.trans rfl
      change w2.cell? (Ctx.slot tb six C) = some (.pointer none) at hs
      generalize hsl : Ctx.slot tb six C = sl at *
      clear hsl hR hon hst hkp hbo hlk hT2 hk2
      simp only
      go_wp2
      go_quiet (fail)
      go_wp2
      refine bodyPost_ret (v := .agg #[.int .i64 0, .int .i64 acc.1, .int .i64 acc.2]) ?_ rfl ⟨by rw [HL2.out], ?_⟩
      · simp [results, Try.results76, go_sem, o0, o1, o2, r0, r1, r2]
      · (repeat' first | with_reducible exact HB2.out | with_reducible refine Below.drew ?_ | with_reducible refine below_drewN ?_ _ | with_reducible refine Below.setCell ?_ ?_ _ | (simp; done) | (simp; omega) | omega)
    | node g q hv l r =>
      obtain ⟨hblk, hgm⟩ := hT2.node hR
      have n0 := hblk.cell 0
      have n1 := hblk.cell 1
      have n2 := hblk.cell 2
      have n3 := hblk.cell 3
      have hgo2 : ¬ g = w.heap.size + 1 + 1 := by intro he; rw [he] at hgm; have := (HT.out.lt _ hgm).2; omega
      have HG := Lib.hid hblk
      have HLK := Lib.hid (hlk.trans (stop_look hst))
      have HEQ := fun w => eqPV q ⟨six, hi, lo, wd⟩ w
      have hst' : q = ⟨six, hi, lo, wd⟩ ∨ PV.over q ⟨six, hi, lo, wd⟩ = false := hst
      change w2.cell? (Ctx.slot tb six C) = some (.pointer (some ⟨g, 0, none⟩)) at hs
      generalize hsl : Ctx.slot tb six C = sl at *
      by_cases he : q = ⟨six, hi, lo, wd⟩
      · have HL2 : Hid (lookT ⟨six, hi, lo, wd⟩ (R six) (0, 0) = if hv = 0 then acc else (hv, wd)) := by
          show _ = _
          have := HLK.out
          simp only at this
          rw [if_pos he, he, if_neg (by rw [over_refl HP.out]; simp)] at this
          exact this
        have CN := Lib.hid (fun (w3 : World) (hb : Below w2.heap.size w2 w3) => note_any g (w.heap.size + 1 + 1) q hv l.ptr r.ptr acc w3 hgo2 (HG.out.below hb HG.out.lt) (HBO.out.below hb HBO.out.lt))
        have HR0 := Lib.hid (show w.heap.size + 1 ∉ [w.heap.size + 1 + 1] by simp)
        rw [decide_eq_true he] at HEQ
        subst he
        unfold PV.val at HEQ
        simp only at HEQ CN
        obtain ⟨ac, hac⟩ : ∃ ac, (if hv = 0 then acc else (hv, wd)) = ac := ⟨_, rfl⟩
        rw [hac] at CN HL2
        clear hac
        simp [nodeCs] at n0 n1 n2 n3
        have hsz3 : w.heap.size + 1 < w2.heap.size := by omega
        clear HLK HL hsl hR hon hst hst' hkp hbo hlk hT2 hk2 hblk hgm
        simp only
        go_wp2
        go_quiet (fail)
        go_wp2_with fail
        refine (CN.out _ (below_drewN (Below.refl _ _) _)).mono ?_
        rintro e w4 ⟨rfl, hb4, hk4⟩
        have hk4 := hk4
        have o0 := hb4.cell 0
        have o1 := hb4.cell 1
        have o2 := hb4.cell 2
        simp [NoteCs] at o0 o1 o2
        have f0 : w4.frozen? ⟨w.heap.size + 1, 0, none⟩ = false := (hk4.frozenK (p := ⟨w.heap.size + 1, 0, none⟩) hsz3 HR0.out).trans f0
        have f1 : w4.frozen? ⟨w.heap.size + 1, 1, none⟩ = false := (hk4.frozenK (p := ⟨w.heap.size + 1, 1, none⟩) hsz3 HR0.out).trans f1
        have f2 : w4.frozen? ⟨w.heap.size + 1, 2, none⟩ = false := (hk4.frozenK (p := ⟨w.heap.size + 1, 2, none⟩) hsz3 HR0.out).trans f2
        have r0 := (hk4.cellK (p := ⟨w.heap.size + 1, 0, none⟩) hsz3 HR0.out).trans r0
        have r1 := (hk4.cellK (p := ⟨w.heap.size + 1, 1, none⟩) hsz3 HR0.out).trans r1
        have r2 := (hk4.cellK (p := ⟨w.heap.size + 1, 2, none⟩) hsz3 HR0.out).trans r2
        have HB4 : Hid (Below w.heap.size w w4) := HB2.out.trans (below_drewN_left (hk4.below (B := w.heap.size) (by simp; omega) (by simp; omega)))
        clear hk4 hb4
        go_wp2
        refine bodyPost_ret (v := .agg #[.int .i64 0, .int .i64 ac.1, .int .i64 ac.2]) ?_ rfl ⟨by rw [HL2.out], ?_⟩
        · simp [results, Try.results76, go_sem, o0, o1, o2, r0, r1, r2]
        · (repeat' first | with_reducible exact HB4.out | with_reducible refine Below.drew ?_ | with_reducible refine below_drewN ?_ _ | with_reducible refine Below.setCell ?_ ?_ _ | (simp; done) | (simp; omega) | omega)
      · have HL2 : Hid (lookT ⟨six, hi, lo, wd⟩ (R six) (0, 0) = acc) := by
          show _ = _
          have := HLK.out
          simp only at this
          rw [if_neg he] at this
          rw [this]; split <;> rfl
        rw [decide_eq_false he] at HEQ
        obtain ⟨qs, qh, ql, qn⟩ := q
        unfold PV.val at HEQ
        simp only at HEQ
        simp [nodeCs] at n0 n1 n2 n3
        clear HLK HL hsl hR hon hst hst' hkp hbo hlk hT2 hk2 hblk hgm he
        simp only
        go_wp2
        go_quiet (fail)
        go_wp2
        refine bodyPost_ret (v := .agg #[.int .i64 0, .int .i64 acc.1, .int .i64 acc.2]) ?_ rfl ⟨by rw [HL2.out], ?_⟩
        · simp [results, Try.results76, go_sem, o0, o1, o2, r0, r1, r2]
        · (repeat' first | with_reducible exact HB2.out | with_reducible refine Below.drew ?_ | with_reducible refine below_drewN ?_ _ | with_reducible refine Below.setCell ?_ ?_ _ | (simp; done) | (simp; omega) | omega)

end Go.Proofs.Ytonelibgaceflaa
