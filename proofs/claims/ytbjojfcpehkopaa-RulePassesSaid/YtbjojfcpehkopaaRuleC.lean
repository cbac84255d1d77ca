/-
  Proved here: the contracts of rules.Check and of the reference's RulesFault.
-/
import Derived.Test.YtbjojfcpehkopaaFault
import Derived.Test.YtbjojfcpehkopaaMem2
namespace Go.Proofs.Ytbjojfcpehkopaa
open Go.ChangeShapes Go.WideShapes Go.ChangeAt Go.RowKit

structure RuleV where
  yes : Bool
  six : Bool
  hi : Int
  lo : Int
  n : Int
  least : Int
  most : Int

def RuleV.cells (r : RuleV) : List Value := [.bool r.yes, .bool r.six, .int .u64 r.hi, .int .u64 r.lo, .int .i64 r.n, .int .i64 r.least, .int .i64 r.most]
theorem RuleV.cells_length (r : RuleV) : r.cells.length = 7 := rfl
def RuleV.Ok (r : RuleV) : Prop := (0 ≤ r.hi ∧ r.hi < 18446744073709551616) ∧ (0 ≤ r.lo ∧ r.lo < 18446744073709551616)

/-- The fault of one rule. -/
def RuleV.fault (r : RuleV) : Int :=
  if ¬ chk r.six r.hi r.lo r.n = 0 then chk r.six r.hi r.lo r.n else if r.least < r.n ∨ r.most < r.least ∨ wideI r.six < r.most then 2 else 0

/-- The first fault of a list. -/
def rulesE : List RuleV → Int
  | [] => 0
  | r :: l => if r.fault = 0 then rulesE l else r.fault
def RulesTo (l : List RuleV) (k : Nat) : Prop := rulesE (l.take k) = 0

theorem rulesE_append : ∀ (a b : List RuleV), rulesE a = 0 → rulesE (a ++ b) = rulesE b
  | [], _, _ => rfl
  | r :: a, b, h => by
    unfold rulesE at h
    by_cases hf : r.fault = 0
    · rw [if_pos hf] at h
      rw [List.cons_append, show rulesE (r :: (a ++ b)) = if r.fault = 0 then rulesE (a ++ b) else r.fault from rfl, if_pos hf]
      exact rulesE_append a b h
    · rw [if_neg hf] at h
      exact absurd h hf
theorem rulesE_at {l : List RuleV} {k : Nat} {r : RuleV} (h : RulesTo l k) (hk : l[k]? = some r) (hf : ¬ r.fault = 0) : rulesE l = r.fault := by
  have e : l = l.take k ++ l.drop k := (List.take_append_drop k l).symm
  have hl : k < l.length := (List.getElem?_eq_some_iff.1 hk).1
  have e2 : l.drop k = r :: l.drop (k + 1) := by
    rw [List.drop_eq_getElem_cons hl]
    rw [List.getElem?_eq_getElem hl] at hk
    injection hk with hk
    rw [hk]
  rw [e, rulesE_append _ _ h, e2]
  unfold rulesE
  rw [if_neg hf]
theorem rulesTo_succ {l : List RuleV} {k : Nat} {r : RuleV} (h : RulesTo l k) (hk : l.take (k + 1) = l.take k ++ [r]) (hf : r.fault = 0) : RulesTo l (k + 1) := by
  unfold RulesTo
  rw [hk, rulesE_append _ _ h]
  unfold rulesE
  rw [if_pos hf]
  rfl
theorem rulesE_end {l : List RuleV} {k : Nat} (h : RulesTo l k) (hl : l.length = k) : rulesE l = 0 := by
  unfold RulesTo at h
  rwa [← hl, List.take_length] at h

theorem refWide_any (six : Bool) (w : World) : Calls Try.prog 58 #[.bool six] w fun e w' => e = .returned (.int .i64 (wideI six)) ∧ w = w' := by
  cases six <;>
  · go_enter Try.func58, Try.ntmps58
    go_wp2
    go_ret
    exact ⟨rfl, rfl⟩

set_option maxHeartbeats 1600000 in
theorem ruleCheck_any (A : Option Addr) (n c : Nat) (l : List RuleV) (w : World) (hn : n ≤ 30) (hz : l.length = n) (hw : ∀ r ∈ l, r.Ok) (hr : Reads w w.heap.size 7 A n (l.flatMap RuleV.cells)) :
    Calls Try.prog 19 #[.slice A n c] w fun e w' => e = .returned (.int .i64 (rulesE l)) ∧ Below w.heap.size w w' := by
  have HZ := Lib.hid hz
  have HR := Lib.hid hr
  have HW := Lib.hid hw
  obtain ⟨r, hr0⟩ : ∃ r, r = rulesE l := ⟨_, rfl⟩
  rw [← hr0]
  have H0 := Lib.hid hr0
  clear hz hr hw hr0
  go_enter Try.func19, Try.ntmps19
  go_wp2
  go_loopw [11, 4, 5] (fun i _ _ wr => ∃ k : Nat, k ≤ n ∧ i = .int .i64 k ∧ RulesTo l k ∧ Below w.heap.size w wr) (fun i _ _ _ => n - (intOf i).toNat)
  case atStart => exact ⟨0, by omega, rfl, rfl, Below.refl _ _⟩
  case round =>
    obtain ⟨k, hk, rfl, hto, hb⟩ := hrel
    have HT := Lib.hid hto
    clear hto
    by_cases hlt : k < n
    · obtain ⟨ad, ⟨yes, six, hi, lo, m, least, most⟩, rfl, hlk, htk, hmem, hbk, hc0, hcj⟩ := HR.out.atS RuleV.cells_length HZ.out hlt
      have q0 := (hb.cell (p := ad.add (k * 7)) (by rw [block_of_add]; exact hbk)).trans (hc0 _ rfl)
      have q1 := (hb.cell (p := ⟨(ad.add (k * 7)).block, (ad.add (k * 7)).off + 1, none⟩) (by rw [block_of_add]; exact hbk)).trans (hcj 1 _ rfl)
      have q2 := (hb.cell (p := ⟨(ad.add (k * 7)).block, (ad.add (k * 7)).off + 2, none⟩) (by rw [block_of_add]; exact hbk)).trans (hcj 2 _ rfl)
      have q3 := (hb.cell (p := ⟨(ad.add (k * 7)).block, (ad.add (k * 7)).off + 3, none⟩) (by rw [block_of_add]; exact hbk)).trans (hcj 3 _ rfl)
      have q4 := (hb.cell (p := ⟨(ad.add (k * 7)).block, (ad.add (k * 7)).off + 4, none⟩) (by rw [block_of_add]; exact hbk)).trans (hcj 4 _ rfl)
      have q5 := (hb.cell (p := ⟨(ad.add (k * 7)).block, (ad.add (k * 7)).off + 5, none⟩) (by rw [block_of_add]; exact hbk)).trans (hcj 5 _ rfl)
      have q6 := (hb.cell (p := ⟨(ad.add (k * 7)).block, (ad.add (k * 7)).off + 6, none⟩) (by rw [block_of_add]; exact hbk)).trans (hcj 6 _ rfl)
      have hw := HW.out _ hmem
      obtain ⟨w1hi, w1lo⟩ := hw
      simp only at w1hi w1lo
      have hfd : RuleV.fault ⟨yes, six, hi, lo, m, least, most⟩ = if ¬ chk six hi lo m = 0 then chk six hi lo m else if least < m ∨ most < least ∨ wideI six < most then 2 else 0 := rfl
      have hcc := fun w => check_any six hi lo m w w1hi w1lo
      clear hc0 hcj hmem hbk
      by_cases hz : chk six hi lo m = 0
      · rw [hz] at hfd hcc
        rw [if_neg (fun h => h rfl)] at hfd
        have CC := Lib.hid hcc
        clear hcc hz
        by_cases h1 : least < m ∨ most < least ∨ wideI six < most
        · rw [if_pos h1] at hfd
          have HR2 := Lib.hid (rulesE_at HT.out hlk (by rw [hfd]; omega))
          rw [hfd] at HR2
          clear hfd hlk htk
          by_cases k1 : least < m
          · clear h1
            go_wp2_with fail
            refine (CC.out _).mono ?_
            rintro e w1 ⟨rfl, hbw⟩
            obtain ⟨B1, S1, F⟩ := box1 (cs := [.bool yes, .bool six, .int .u64 hi, .int .u64 lo, .int .i64 m, .int .i64 least, .int .i64 most]) hbw
            have p1 := F 1 _ rfl
            have p4 := F 4 _ rfl
            have p5 := F 5 _ rfl
            have p6 := F 6 _ rfl
            clear hbw F
            go_wp2_with fail
            go_quiet (((go_at_call 56; exact Calls.quiet_of_same ((wide_any six _).mono fun e w' h => ⟨h.1, h.2.symm⟩))))
            go_wp2
            go_ret
            exact ⟨ret_int (HR2.out.symm.trans H0.out.symm), below_drewN (hb.trans (B1.mono hb.size)) _⟩
          · have hd1 : decide (least < m) = false := by simpa using k1
            by_cases k2 : most < least
            · clear h1
              go_wp2_with fail
              refine (CC.out _).mono ?_
              rintro e w1 ⟨rfl, hbw⟩
              obtain ⟨B1, S1, F⟩ := box1 (cs := [.bool yes, .bool six, .int .u64 hi, .int .u64 lo, .int .i64 m, .int .i64 least, .int .i64 most]) hbw
              have p1 := F 1 _ rfl
              have p4 := F 4 _ rfl
              have p5 := F 5 _ rfl
              have p6 := F 6 _ rfl
              clear hbw F
              go_wp2_with fail
              go_quiet (((go_at_call 56; exact Calls.quiet_of_same ((wide_any six _).mono fun e w' h => ⟨h.1, h.2.symm⟩))))
              go_wp2
              go_ret
              exact ⟨ret_int (HR2.out.symm.trans H0.out.symm), below_drewN (hb.trans (B1.mono hb.size)) _⟩
            · have hd2 : decide (most < least) = false := by simpa using k2
              have k3 : wideI six < most := by omega
              clear h1
              go_wp2_with fail
              refine (CC.out _).mono ?_
              rintro e w1 ⟨rfl, hbw⟩
              obtain ⟨B1, S1, F⟩ := box1 (cs := [.bool yes, .bool six, .int .u64 hi, .int .u64 lo, .int .i64 m, .int .i64 least, .int .i64 most]) hbw
              have p1 := F 1 _ rfl
              have p4 := F 4 _ rfl
              have p5 := F 5 _ rfl
              have p6 := F 6 _ rfl
              clear hbw F
              go_wp2_with fail
              go_quiet (((go_at_call 56; exact Calls.quiet_of_same ((wide_any six _).mono fun e w' h => ⟨h.1, h.2.symm⟩))))
              go_wp2
              go_ret
              exact ⟨ret_int (HR2.out.symm.trans H0.out.symm), below_drewN (hb.trans (B1.mono hb.size)) _⟩
        · rw [if_neg h1] at hfd
          have HT2 := Lib.hid (rulesTo_succ HT.out htk hfd)
          clear hfd hlk htk
          have h2 : ¬ least < m := by omega
          have h3 : ¬ most < least := by omega
          have h4 : ¬ wideI six < most := by omega
          have h1' := h1
          clear h1
          have hd1 : decide (least < m) = false := by simpa using h2
          have hd2 : decide (most < least) = false := by simpa using h3
          have hd3 : decide (wideI six < most) = false := by simpa using h4
          go_wp2_with fail
          refine (CC.out _).mono ?_
          rintro e w1 ⟨rfl, hbw⟩
          obtain ⟨B1, S1, F⟩ := box1 (cs := [.bool yes, .bool six, .int .u64 hi, .int .u64 lo, .int .i64 m, .int .i64 least, .int .i64 most]) hbw
          have p1 := F 1 _ rfl
          have p4 := F 4 _ rfl
          have p5 := F 5 _ rfl
          have p6 := F 6 _ rfl
          clear hbw F
          go_wp2_with fail
          go_quiet (((go_at_call 56; exact Calls.quiet_of_same ((wide_any six _).mono fun e w' h => ⟨h.1, h.2.symm⟩))))
          go_wp2
          go_roundw
          case rel => exact ⟨k + 1, by omega, by go_num, HT2.out, below_drewN (hb.trans (B1.mono hb.size)) _⟩
          case measure => simp [intOf]; omega
      · rw [if_pos hz] at hfd
        have HR2 := Lib.hid (rulesE_at HT.out hlk (by rw [hfd]; exact hz))
        rw [hfd] at HR2
        clear hfd hlk htk
        generalize chk six hi lo m = q at *
        have CC := Lib.hid hcc
        have hb1 : (q == 0) = false := by simpa using hz
        have hb2 : (q != 0) = true := by simpa using hz
        clear hcc
        go_wp2_with fail
        refine (CC.out _).mono ?_
        rintro e w1 ⟨rfl, hbw⟩
        obtain ⟨B1, S1, F⟩ := box1 (cs := [.bool yes, .bool six, .int .u64 hi, .int .u64 lo, .int .i64 m, .int .i64 least, .int .i64 most]) hbw
        have p1 := F 1 _ rfl
        have p4 := F 4 _ rfl
        have p5 := F 5 _ rfl
        have p6 := F 6 _ rfl
        clear hbw F
        go_wp2
        go_ret
        exact ⟨ret_int (HR2.out.symm.trans H0.out.symm), hb.trans (B1.mono hb.size)⟩
    · obtain rfl : k = n := by omega
      have HR2 := Lib.hid (rulesE_end HT.out HZ.out)
      go_wp2
      go_ret
      exact ⟨ret_int (HR2.out.symm.trans H0.out.symm), hb⟩

set_option maxHeartbeats 1600000 in
theorem ruleFault_any (A : Option Addr) (n c : Nat) (l : List RuleV) (w : World) (hn : n ≤ 30) (hz : l.length = n) (hw : ∀ r ∈ l, r.Ok) (hr : Reads w w.heap.size 7 A n (l.flatMap RuleV.cells)) :
    Calls Try.prog 20 #[.slice A n c] w fun e w' => e = .returned (.int .i64 (rulesE l)) ∧ Below w.heap.size w w' := by
  have HZ := Lib.hid hz
  have HR := Lib.hid hr
  have HW := Lib.hid hw
  obtain ⟨r, hr0⟩ : ∃ r, r = rulesE l := ⟨_, rfl⟩
  rw [← hr0]
  have H0 := Lib.hid hr0
  clear hz hr hw hr0
  go_enter Try.func20, Try.ntmps20
  go_wp2
  go_loopw [11, 4, 5] (fun i _ _ wr => ∃ k : Nat, k ≤ n ∧ i = .int .i64 k ∧ RulesTo l k ∧ Below w.heap.size w wr) (fun i _ _ _ => n - (intOf i).toNat)
  case atStart => exact ⟨0, by omega, rfl, rfl, Below.refl _ _⟩
  case round =>
    obtain ⟨k, hk, rfl, hto, hb⟩ := hrel
    have HT := Lib.hid hto
    clear hto
    by_cases hlt : k < n
    · obtain ⟨ad, ⟨yes, six, hi, lo, m, least, most⟩, rfl, hlk, htk, hmem, hbk, hc0, hcj⟩ := HR.out.atS RuleV.cells_length HZ.out hlt
      have q0 := (hb.cell (p := ad.add (k * 7)) (by rw [block_of_add]; exact hbk)).trans (hc0 _ rfl)
      have q1 := (hb.cell (p := ⟨(ad.add (k * 7)).block, (ad.add (k * 7)).off + 1, none⟩) (by rw [block_of_add]; exact hbk)).trans (hcj 1 _ rfl)
      have q2 := (hb.cell (p := ⟨(ad.add (k * 7)).block, (ad.add (k * 7)).off + 2, none⟩) (by rw [block_of_add]; exact hbk)).trans (hcj 2 _ rfl)
      have q3 := (hb.cell (p := ⟨(ad.add (k * 7)).block, (ad.add (k * 7)).off + 3, none⟩) (by rw [block_of_add]; exact hbk)).trans (hcj 3 _ rfl)
      have q4 := (hb.cell (p := ⟨(ad.add (k * 7)).block, (ad.add (k * 7)).off + 4, none⟩) (by rw [block_of_add]; exact hbk)).trans (hcj 4 _ rfl)
      have q5 := (hb.cell (p := ⟨(ad.add (k * 7)).block, (ad.add (k * 7)).off + 5, none⟩) (by rw [block_of_add]; exact hbk)).trans (hcj 5 _ rfl)
      have q6 := (hb.cell (p := ⟨(ad.add (k * 7)).block, (ad.add (k * 7)).off + 6, none⟩) (by rw [block_of_add]; exact hbk)).trans (hcj 6 _ rfl)
      have hw := HW.out _ hmem
      obtain ⟨w1hi, w1lo⟩ := hw
      simp only at w1hi w1lo
      have hfd : RuleV.fault ⟨yes, six, hi, lo, m, least, most⟩ = if ¬ chk six hi lo m = 0 then chk six hi lo m else if least < m ∨ most < least ∨ wideI six < most then 2 else 0 := rfl
      have hcc := fun w => preFault_any six hi lo m w w1hi w1lo
      clear hc0 hcj hmem hbk
      by_cases hz : chk six hi lo m = 0
      · rw [hz] at hfd hcc
        rw [if_neg (fun h => h rfl)] at hfd
        have CC := Lib.hid hcc
        clear hcc hz
        by_cases h1 : least < m ∨ most < least ∨ wideI six < most
        · rw [if_pos h1] at hfd
          have HR2 := Lib.hid (rulesE_at HT.out hlk (by rw [hfd]; omega))
          rw [hfd] at HR2
          clear hfd hlk htk
          by_cases k1 : least < m
          · have hd1 : decide (m ≤ least) = false := by simp; omega
            clear h1
            go_wp2_with fail
            refine (CC.out _).mono ?_
            rintro e w1 ⟨rfl, hbw⟩
            obtain ⟨B1, S1, F⟩ := box1 (cs := [.bool yes, .bool six, .int .u64 hi, .int .u64 lo, .int .i64 m, .int .i64 least, .int .i64 most]) hbw
            have p1 := F 1 _ rfl
            have p4 := F 4 _ rfl
            have p5 := F 5 _ rfl
            have p6 := F 6 _ rfl
            clear hbw F
            go_wp2_with fail
            go_quiet (((go_at_call 58; exact Calls.quiet_of_same ((refWide_any six _).mono fun e w' h => ⟨h.1, h.2.symm⟩))))
            go_wp2
            go_ret
            exact ⟨ret_int (HR2.out.symm.trans H0.out.symm), below_drewN (hb.trans (B1.mono hb.size)) _⟩
          · have hd1 : m ≤ least := by omega
            by_cases k2 : most < least
            · have hd2 : decide (least ≤ most) = false := by simp; omega
              clear h1
              go_wp2_with fail
              refine (CC.out _).mono ?_
              rintro e w1 ⟨rfl, hbw⟩
              obtain ⟨B1, S1, F⟩ := box1 (cs := [.bool yes, .bool six, .int .u64 hi, .int .u64 lo, .int .i64 m, .int .i64 least, .int .i64 most]) hbw
              have p1 := F 1 _ rfl
              have p4 := F 4 _ rfl
              have p5 := F 5 _ rfl
              have p6 := F 6 _ rfl
              clear hbw F
              go_wp2_with fail
              go_quiet (((go_at_call 58; exact Calls.quiet_of_same ((refWide_any six _).mono fun e w' h => ⟨h.1, h.2.symm⟩))))
              go_wp2
              go_ret
              exact ⟨ret_int (HR2.out.symm.trans H0.out.symm), below_drewN (hb.trans (B1.mono hb.size)) _⟩
            · have hd2 : least ≤ most := by omega
              have hd3 : decide (most ≤ wideI six) = false := by simp; omega
              clear h1
              go_wp2_with fail
              refine (CC.out _).mono ?_
              rintro e w1 ⟨rfl, hbw⟩
              obtain ⟨B1, S1, F⟩ := box1 (cs := [.bool yes, .bool six, .int .u64 hi, .int .u64 lo, .int .i64 m, .int .i64 least, .int .i64 most]) hbw
              have p1 := F 1 _ rfl
              have p4 := F 4 _ rfl
              have p5 := F 5 _ rfl
              have p6 := F 6 _ rfl
              clear hbw F
              go_wp2_with fail
              go_quiet (((go_at_call 58; exact Calls.quiet_of_same ((refWide_any six _).mono fun e w' h => ⟨h.1, h.2.symm⟩))))
              go_wp2
              go_ret
              exact ⟨ret_int (HR2.out.symm.trans H0.out.symm), below_drewN (hb.trans (B1.mono hb.size)) _⟩
        · rw [if_neg h1] at hfd
          have HT2 := Lib.hid (rulesTo_succ HT.out htk hfd)
          clear hfd hlk htk
          have h2 : m ≤ least := by omega
          have h3 : least ≤ most := by omega
          have h4 : most ≤ wideI six := by omega
          have h1' := h1
          clear h1
          clear h1' 
          go_wp2_with fail
          refine (CC.out _).mono ?_
          rintro e w1 ⟨rfl, hbw⟩
          obtain ⟨B1, S1, F⟩ := box1 (cs := [.bool yes, .bool six, .int .u64 hi, .int .u64 lo, .int .i64 m, .int .i64 least, .int .i64 most]) hbw
          have p1 := F 1 _ rfl
          have p4 := F 4 _ rfl
          have p5 := F 5 _ rfl
          have p6 := F 6 _ rfl
          clear hbw F
          go_wp2_with fail
          go_quiet (((go_at_call 58; exact Calls.quiet_of_same ((refWide_any six _).mono fun e w' h => ⟨h.1, h.2.symm⟩))))
          go_wp2
          go_roundw
          case rel => exact ⟨k + 1, by omega, by go_num, HT2.out, below_drewN (hb.trans (B1.mono hb.size)) _⟩
          case measure => simp [intOf]; omega
      · rw [if_pos hz] at hfd
        have HR2 := Lib.hid (rulesE_at HT.out hlk (by rw [hfd]; exact hz))
        rw [hfd] at HR2
        clear hfd hlk htk
        generalize chk six hi lo m = q at *
        have CC := Lib.hid hcc
        have hb1 : (q == 0) = false := by simpa using hz
        have hb2 : (q != 0) = true := by simpa using hz
        clear hcc
        go_wp2_with fail
        refine (CC.out _).mono ?_
        rintro e w1 ⟨rfl, hbw⟩
        obtain ⟨B1, S1, F⟩ := box1 (cs := [.bool yes, .bool six, .int .u64 hi, .int .u64 lo, .int .i64 m, .int .i64 least, .int .i64 most]) hbw
        have p1 := F 1 _ rfl
        have p4 := F 4 _ rfl
        have p5 := F 5 _ rfl
        have p6 := F 6 _ rfl
        clear hbw F
        go_wp2
        go_ret
        exact ⟨ret_int (HR2.out.symm.trans H0.out.symm), hb.trans (B1.mono hb.size)⟩
    · obtain rfl : k = n := by omega
      have HR2 := Lib.hid (rulesE_end HT.out HZ.out)
      go_wp2
      go_ret
      exact ⟨ret_int (HR2.out.symm.trans H0.out.symm), hb⟩


end Go.Proofs.Ytbjojfcpehkopaa
