/-
  Proved here: the contracts of slices.IndexFunc and slices.ContainsFunc at slices of int, for every function value whose contract is known.
-/
import Derived.Test.YtaeideeimhenmaaChecked
import Derived.Test.YtaeideeimhenmaaFirstAt
import Derived.Test.YtaeideeimhenmaaAuto
namespace Go.Proofs.Ytaeideeimhenmaa
open Go.ChangeShapes Go.WideShapes Go.ChangeAt Go.RowKit

/-- A test on an element, as a function value: its contract in every later world. -/
def IntTest (w : World) (fid : FuncId) (caps : Array Value) (f : Int → Bool) (l : List Int) : Prop :=
  ∀ r ∈ l, ∀ w', Below w.heap.size w w' → Calls Try.prog fid (#[.int .i64 r] ++ caps) w' fun e w'' => e = .returned (.bool (f r)) ∧ Below w'.heap.size w' w''

set_option maxRecDepth 100000 in
set_option maxHeartbeats 1600000 in
theorem idxInt_any (A : Option Addr) (n c : Nat) (l : List Int) (f : Int → Bool) (fid : FuncId) (caps : Array Value) (w : World) (hent : ∀ (args : Array Value) (w : World), (callFunc fid args).run Try.prog w = .ok (.enter fid args) w) (hz : l.length = n) (hm : n ≤ maxLen) (hr : Reads w w.heap.size 1 A n (l.map (Value.int .i64)))
    (ht : IntTest w fid caps f l) :
    Calls Try.prog 62 #[.slice A n c, .func (.func fid) #[] caps] w fun e w' => e = .returned (.int .i64 (firstAt f l)) ∧ Below w.heap.size w w' := by
  have HZ := Lib.hid hz
  have HR := Lib.hid hr
  have HBK : Hid (∀ ad, A = some ad → 0 < n → ad.block < w.heap.size) := by
    show ∀ ad, _ → _ → _
    intro ad ha hn
    obtain ⟨ad', ha', hb', _⟩ := hr.2 hn
    rw [ha] at ha'
    injection ha' with ha'
    rw [ha']
    exact hb'
  have HT := Lib.hid ht
  unfold maxLen at hm
  obtain ⟨r, hr0⟩ : ∃ r, r = firstAt f l := ⟨_, rfl⟩
  rw [← hr0]
  have H0 := Lib.hid hr0
  clear hz hr ht hr0
  go_enter Try.func62, Try.ntmps62
  go_wp2
  go_loopw [8, 5] (fun i _ wr => ∃ k : Nat, k ≤ n ∧ i = .int .i64 k ∧ NoneYet f l k ∧ Below w.heap.size w wr) (fun i _ _ => n - (intOf i).toNat)
  case atStart => exact ⟨0, by omega, rfl, noneYet_zero f l, Below.refl _ _⟩
  case round =>
    obtain ⟨k, hk, rfl, hto, hb⟩ := hrel
    have HN := Lib.hid hto
    clear hto
    by_cases hlt : k < n
    · obtain ⟨ad, x, rfl, hc0, htk, hlk, hmem⟩ := HR.out.at1 hlt
      have q0 := (hb.cell (p := ad.add k) (by rw [block_of_add]; exact HBK.out ad rfl (by omega))).trans hc0
      have HC : Hid (Calls Try.prog fid (#[.int .i64 x] ++ caps) wr fun e w'' => e = .returned (.bool (f x)) ∧ Below wr.heap.size wr w'') := HT.out _ hmem wr hb
      have HL := Lib.hid hlk
      have HK := Lib.hid htk
      clear hlk htk hmem hc0
      generalize hfv : f x = fv at *
      have HV := Lib.hid hfv
      clear hfv
      cases fv
      · have HN2 := Lib.hid (noneYet_succ HN.out HK.out HV.out)
        go_wp2_with fail
        refine HC.out.mono ?_
        rintro e w1 ⟨rfl, hb1⟩
        have HB := Lib.hid (below_step hb hb1)
        clear hb1
        go_wp2
        go_roundw
        case rel => exact ⟨k + 1, by omega, by go_num, HN2.out, HB.out⟩
        case measure => simp [intOf]; omega
      · have HN2 := Lib.hid (firstAt_at HN.out HL.out HV.out)
        go_wp2_with fail
        refine HC.out.mono ?_
        rintro e w1 ⟨rfl, hb1⟩
        have HB := Lib.hid (below_step hb hb1)
        clear hb1
        go_wp2
        go_ret
        exact ⟨ret_int (HN2.out.symm.trans H0.out.symm), HB.out⟩
    · obtain rfl : k = n := by omega
      have HN2 := Lib.hid (firstAt_end HN.out HZ.out)
      go_wp2
      go_ret
      exact ⟨ret_int (HN2.out.symm.trans H0.out.symm), hb⟩

set_option maxRecDepth 100000 in
set_option maxHeartbeats 400000 in
theorem hasInt_any (A : Option Addr) (n c : Nat) (l : List Int) (f : Int → Bool) (fid : FuncId) (caps : Array Value) (w : World) (hent : ∀ (args : Array Value) (w : World), (callFunc fid args).run Try.prog w = .ok (.enter fid args) w) (hz : l.length = n) (hm : n ≤ maxLen) (hr : Reads w w.heap.size 1 A n (l.map (Value.int .i64)))
    (ht : IntTest w fid caps f l) :
    Calls Try.prog 58 #[.slice A n c, .func (.func fid) #[] caps] w fun e w' => e = .returned (.bool (l.any f)) ∧ Below w.heap.size w w' := by
  have HI := idxInt_any A n c l f fid caps w hent hz hm hr ht
  clear hz hm hr ht hent
  rcases firstAt_cases f l with ⟨h1, h2⟩ | ⟨k, x, h1, h2, h3⟩
  · rw [show l.any f = false from by rw [List.any_eq_false]; exact fun x hx => by rw [h2 x hx]; simp]
    rw [h1] at HI
    have HI' := Lib.hid HI
    clear HI h1 h2
    go_enter Try.func58, Try.ntmps58
    go_wp2_with fail
    refine HI'.out.mono ?_
    rintro e w1 ⟨rfl, hb⟩
    go_wp2
    go_ret
    exact ⟨rfl, hb⟩
  · rw [show l.any f = true from by rw [List.any_eq_true]; exact ⟨x, List.mem_of_getElem? h2, h3⟩]
    rw [h1] at HI
    have HI' := Lib.hid HI
    clear HI h1 h2 h3
    go_enter Try.func58, Try.ntmps58
    go_wp2_with fail
    refine HI'.out.mono ?_
    rintro e w1 ⟨rfl, hb⟩
    go_wp2
    go_ret
    exact ⟨rfl, hb⟩

end Go.Proofs.Ytaeideeimhenmaa
