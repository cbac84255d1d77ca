/-
  
  
  
-/
import Derived.Test.YtmljdjakbbedlaaC3
import Derived.Test.YtmljdjakbbedlaaC2
import Derived.Test.YtmljdjakbbedlaaC14
import Derived.Test.YtmljdjakbbedlaaC11
namespace Go.Proofs.Ytmljdjakbbedlaa
open Go.ChangeShapes Go.WideShapes Go.ChangeAt Go.RowKit

set_option maxRecDepth 100000 in
set_option maxHeartbeats 800000 in
theorem sameRoutes_any (A A' : Option Addr) (n c n' c' : Nat) (l l' : List RouteV) (w : World) (hz : l.length = n) (hz' : l'.length = n') (hm : n ≤ maxLen) (hm' : n' ≤ maxLen)
    (hr : Reads w w.heap.size 5 A n (l.flatMap RouteV.cells)) (hr' : Reads w w.heap.size 5 A' n' (l'.flatMap RouteV.cells)) :
    Calls Try.prog 32 #[.slice A n c, .slice A' n' c'] w fun e w' => e = .returned (.bool (decide (l = l'))) ∧ Below w.heap.size w w' := by
  unfold maxLen at hm hm'
  by_cases hnn : n = n'
  · subst hnn
    have HZ := Lib.hid hz
    have HZ' := Lib.hid hz'
    have HR := Lib.hid hr
    have HR' := Lib.hid hr'
    obtain ⟨d, hd⟩ : ∃ d, d = decide (l = l') := ⟨_, rfl⟩
    rw [← hd]
    have HD := Lib.hid hd
    clear hz hz' hr hr' hm' hd
    go_enter Try.func32, Try.ntmps32
    go_wp2
    go_loopw [5, 4] (fun i _ wr => ∃ k : Nat, k ≤ n ∧ i = .int .i64 k ∧ l.take k = l'.take k ∧ Below w.heap.size w wr) (fun i _ _ => n - (intOf i).toNat)
    case atStart => exact ⟨0, by omega, rfl, rfl, Below.refl _ _⟩
    case round =>
      obtain ⟨k, hk, rfl, hto, hb⟩ := hrel
      have HT := Lib.hid hto
      clear hto
      by_cases hlt : k < n
      · obtain ⟨ad, ⟨⟨six, hi, lo, pn⟩, hop⟩, rfl, hlk, htk, hmem, hbk, hc0, hcj⟩ := HR.out.atS RouteV.cells_length HZ.out hlt
        have q0 := (hb.cell (p := ad.add (k * 5)) (by rw [block_of_add]; exact hbk)).trans (hc0 _ rfl)
        have q1 := (hb.cell (p := ⟨(ad.add (k * 5)).block, (ad.add (k * 5)).off + 1, none⟩) (by rw [block_of_add]; exact hbk)).trans (hcj 1 _ rfl)
        have q2 := (hb.cell (p := ⟨(ad.add (k * 5)).block, (ad.add (k * 5)).off + 2, none⟩) (by rw [block_of_add]; exact hbk)).trans (hcj 2 _ rfl)
        have q3 := (hb.cell (p := ⟨(ad.add (k * 5)).block, (ad.add (k * 5)).off + 3, none⟩) (by rw [block_of_add]; exact hbk)).trans (hcj 3 _ rfl)
        have q4 := (hb.cell (p := ⟨(ad.add (k * 5)).block, (ad.add (k * 5)).off + 4, none⟩) (by rw [block_of_add]; exact hbk)).trans (hcj 4 _ rfl)
        have HL := Lib.hid hlk
        have HTK := Lib.hid htk
        clear hlk htk hmem hc0 hcj
        obtain ⟨ad', ⟨⟨six', hi', lo', pn'⟩, hop'⟩, rfl, hlk, htk, hmem, hbk', hc0, hcj⟩ := HR'.out.atS RouteV.cells_length HZ'.out hlt
        have x0 := (hb.cell (p := ad'.add (k * 5)) (by rw [block_of_add]; exact hbk')).trans (hc0 _ rfl)
        have x1 := (hb.cell (p := ⟨(ad'.add (k * 5)).block, (ad'.add (k * 5)).off + 1, none⟩) (by rw [block_of_add]; exact hbk')).trans (hcj 1 _ rfl)
        have x2 := (hb.cell (p := ⟨(ad'.add (k * 5)).block, (ad'.add (k * 5)).off + 2, none⟩) (by rw [block_of_add]; exact hbk')).trans (hcj 2 _ rfl)
        have x3 := (hb.cell (p := ⟨(ad'.add (k * 5)).block, (ad'.add (k * 5)).off + 3, none⟩) (by rw [block_of_add]; exact hbk')).trans (hcj 3 _ rfl)
        have x4 := (hb.cell (p := ⟨(ad'.add (k * 5)).block, (ad'.add (k * 5)).off + 4, none⟩) (by rw [block_of_add]; exact hbk')).trans (hcj 4 _ rfl)
        have HL' := Lib.hid hlk
        have HTK' := Lib.hid htk
        have HEQ := fun w => eqRV ⟨⟨six, hi, lo, pn⟩, hop⟩ ⟨⟨six', hi', lo', pn'⟩, hop'⟩ w
        have HBO := Lib.hid hb
        clear hlk htk hmem hc0 hcj hb
        by_cases he : (⟨⟨six, hi, lo, pn⟩, hop⟩ : RouteV) = ⟨⟨six', hi', lo', pn'⟩, hop'⟩
        · have HN : Hid (l.take (k + 1) = l'.take (k + 1)) := by show _ = _; rw [HTK.out, HTK'.out, HT.out, he]
          rw [decide_eq_true he] at HEQ
          unfold RouteV.val at HEQ
          simp only at HEQ
          clear he
          go_wp2
          go_quiet (fail)
          go_wp2
          go_roundw
          case rel => exact ⟨k + 1, by omega, by go_num, HN.out, below_drewN HBO.out _⟩
          case measure => simp [intOf]; omega
        · have HN : Hid (d = false) := by
            show _ = _
            rw [HD.out, decide_eq_false_iff_not]
            intro h
            subst h
            rw [HL.out] at HL'
            have := HL'.out
            injection this with this
            exact he this
          rw [decide_eq_false he] at HEQ
          unfold RouteV.val at HEQ
          simp only at HEQ
          clear he
          go_wp2
          go_quiet (fail)
          go_wp2
          go_ret
          exact ⟨by rw [HN.out]; rfl, below_drewN HBO.out _⟩
      · obtain rfl : k = n := by omega
        have HN : Hid (d = true) := by
          show _ = _
          rw [HD.out, decide_eq_true_iff]
          have := HT.out
          rwa [List.take_of_length_le (by rw [HZ.out]; omega), List.take_of_length_le (by rw [HZ'.out]; omega)] at this
        go_wp2
        go_ret
        exact ⟨by rw [HN.out]; rfl, hb⟩
  · have hd : decide (l = l') = false := by rw [decide_eq_false_iff_not]; intro h; subst h; omega
    rw [hd]
    have hne : ¬ (n : Int) = n' := by omega
    clear hz hz' hr hr' hd
    go_enter Try.func32, Try.ntmps32
    go_wp2
    go_ret
    exact ⟨rfl, Below.refl _ _⟩

end Go.Proofs.Ytmljdjakbbedlaa

namespace Go.Proofs.Ytmljdjakbbedlaa
open Go.ChangeShapes Go.WideShapes Go.ChangeAt Go.RowKit

/-- A number of bytes, the first ones highest. -/
def beN (l : List Int) : Int := l.foldl (fun a x => a * 256 + x) 0
theorem beN_snoc (l : List Int) (x : Int) : beN (l ++ [x]) = beN l * 256 + x := by unfold beN; rw [List.foldl_append]; rfl
theorem beN_bound : ∀ (l : List Int), (∀ x ∈ l, 0 ≤ x ∧ x ≤ 255) → 0 ≤ beN l ∧ beN l < ((256 ^ l.length : Nat) : Int) := by
  intro l
  induction hn : l.length generalizing l with
  | zero =>
    intro _
    have : l = [] := List.eq_nil_of_length_eq_zero hn
    subst this
    simp [beN]
  | succ n ih =>
    intro h
    rcases List.eq_nil_or_concat l with rfl | ⟨l', x, rfl⟩
    · simp at hn
    · rw [List.concat_eq_append] at *
      have h1 := ih l' (by simpa using hn) (fun y hy => h y (by simp [hy]))
      have h2 := h x (by simp)
      rw [beN_snoc, Nat.pow_succ]
      omega
/-- What is refused of bytes before they are read. -/
def loadF (b : List Int) : Int := if b.length < 8 then 11 else if 3600 < b.length then 1 else if sumOf (b.take (b.length - 4)) = beN (b.drop (b.length - 4)) then 0 else 12
/-- Bytes that some routes come to. -/
def GoodB (b : List Int) (out : List RouteV) : Prop := routesF out = 0 ∧ ∃ S, SortedOf out S ∧ b = saveL S ++ tailL (sumOf (saveL S))
def LoadIs (b : List Int) (read : List RouteV → Prop) (E : Int) (out : List RouteV) : Prop :=
  (¬ loadF b = 0 ∧ E = loadF b ∧ out = []) ∨ (loadF b = 0 ∧ ((E = 0 ∧ read out ∧ GoodB b out) ∨ (E = 4 ∧ out = [] ∧ ¬ ∃ o, read o ∧ GoodB b o)))
def readP (b : List Int) (o : List RouteV) : Prop := loadP b = (o, false)
def readR (b : List Int) (o : List RouteV) : Prop := refP b = some o
theorem good_ok {out S : List RouteV} (ho : ∀ r ∈ out, r.Ok) (h0 : routesF out = 0) (h : SortedOf out S) : ∀ r ∈ S, RouteB r ∧ r.p.Ok := fun r hr =>
  ⟨routes_b (valid_of ho h0).1 h r hr, ((valid_of ho h0).1.1 r (h.1.mem_iff.1 hr)).1⟩
theorem good_readP {b : List Int} {out : List RouteV} (ho : ∀ r ∈ out, r.Ok) (h : GoodB b out) : ∃ S, readP b S ∧ readR b S := by
  obtain ⟨h0, S, hS, rfl⟩ := h
  exact ⟨S, loadP_save (good_ok ho h0 hS) _ rfl, refP_save (good_ok ho h0 hS) _ rfl⟩
theorem load_both {b : List Int} {out : List RouteV} (ho : ∀ r ∈ out, r.Ok) (hg : GoodB b out) : readP b out ↔ readR b out := by
  obtain ⟨S, h1, h2⟩ := good_readP ho hg
  unfold readP readR at *
  constructor
  · intro h
    rw [h] at h1
    injection h1 with h1
    rw [h1]; exact h2
  · intro h
    rw [h] at h2
    injection h2 with h2
    rw [h2]; exact h1
theorem loadIs_unique {b : List Int} {E E' : Int} {out out' : List RouteV} (hP : ∀ o, readP b o → ∀ r ∈ o, r.Ok) (hR : ∀ o, readR b o → ∀ r ∈ o, r.Ok) (h : LoadIs b (readP b) E out) (h' : LoadIs b (readR b) E' out') : E = E' ∧ out = out' := by
  rcases h with ⟨a, rfl, rfl⟩ | ⟨a, h⟩ <;> rcases h' with ⟨a', rfl, rfl⟩ | ⟨a', h'⟩
  · exact ⟨rfl, rfl⟩
  · exact absurd a' a
  · exact absurd a a'
  · rcases h with ⟨rfl, h1, h2⟩ | ⟨rfl, rfl, h1⟩ <;> rcases h' with ⟨rfl, h1', h2'⟩ | ⟨rfl, rfl, h1'⟩
    · have := (load_both (hP _ h1) h2).1 h1
      unfold readR at this h1'
      rw [this] at h1'
      injection h1' with h1'
      exact ⟨rfl, h1'⟩
    · exact absurd ⟨out, (load_both (hP _ h1) h2).1 h1, h2⟩ h1'
    · exact absurd ⟨out', (load_both (hR _ h1') h2').2 h1', h2'⟩ h1
    · exact ⟨rfl, rfl⟩
/-- A string of bytes. -/
def strB (l : List Int) : ByteArray := ⟨(l.map fun x => UInt8.ofNat x.toNat).toArray⟩
theorem strL_inj : ∀ {a b : List Int}, (∀ x ∈ a, 0 ≤ x ∧ x ≤ 255) → (∀ x ∈ b, 0 ≤ x ∧ x ≤ 255) → a.map (fun x => UInt8.ofNat x.toNat) = b.map (fun x => UInt8.ofNat x.toNat) → a = b
  | [], [], _, _, _ => rfl
  | [], _ :: _, _, _, h => by simp at h
  | _ :: _, [], _, _, h => by simp at h
  | x :: a, y :: b, ha, hb, h => by
    rw [List.map_cons, List.map_cons] at h
    injection h with h1 h2
    have hx := ha x (by simp)
    have hy := hb y (by simp)
    have e : (UInt8.ofNat x.toNat).toNat = (UInt8.ofNat y.toNat).toNat := by rw [h1]
    rw [UInt8.toNat_ofNat', UInt8.toNat_ofNat', Nat.mod_eq_of_lt (by omega), Nat.mod_eq_of_lt (by omega)] at e
    have := strL_inj (fun z hz => ha z (List.mem_cons_of_mem _ hz)) (fun z hz => hb z (List.mem_cons_of_mem _ hz)) h2
    rw [this]
    congr 1
    omega
theorem strB_inj {a b : List Int} (ha : ∀ x ∈ a, 0 ≤ x ∧ x ≤ 255) (hb : ∀ x ∈ b, 0 ≤ x ∧ x ≤ 255) (h : strB a = strB b) : a = b := by
  refine strL_inj ha hb ?_
  unfold strB at h
  injection h with h
  simpa using h
/-- 'string(b)'. -/
theorem conv_str {w : World} {B n c : Nat} {ad : Addr} {bs : List Int} (hb : ∀ x ∈ bs, 0 ≤ x ∧ x ≤ 255) (hz : bs.length = n) (hr : Reads w B 1 (some ad) n (bs.map (Value.int .u8))) :
    (convert 82 9 (.slice (some ad) n c)).run Try.prog w = .ok (.string (strB bs)) w := by
  have h := run_convert_bytes_back (P := Try.prog) w 82 9 5 ad c (bs.map fun x => UInt8.ofNat x.toNat) Try.underlying82 Try.underlying5 Try.underlying9 (fun j hj => by
    have hj' : j < n := by simpa [hz] using hj
    obtain ⟨ad', x, e1, hx, -, hxl, hm⟩ := hr.at1 hj'
    injection e1 with e1
    subst e1
    rw [hx]
    have hxr := hb x hm
    have hg : (bs.map fun x => UInt8.ofNat x.toNat)[j]? = some (UInt8.ofNat x.toNat) := by rw [List.getElem?_map, hxl]; rfl
    rw [List.getElem?_eq_getElem hj] at hg
    injection hg with hg
    rw [hg, UInt8.toNat_ofNat', Nat.mod_eq_of_lt (by omega)]
    congr 3
    omega)
  rw [List.length_map, hz] at h
  exact h

end Go.Proofs.Ytmljdjakbbedlaa

namespace Go.Proofs.Ytmljdjakbbedlaa
open Go.ChangeShapes Go.WideShapes Go.ChangeAt Go.RowKit

/-- Bytes that came in. -/
def IsBytes (w : World) (A : Option Addr) (n c : Nat) (bs : List Int) : Prop := bs.length = n ∧ (n ≤ c ∧ c ≤ maxLen) ∧ (∀ x ∈ bs, 0 ≤ x ∧ x ≤ 255) ∧ Reads w w.heap.size 1 A n (bs.map (Value.int .u8))
theorem IsBytes.below {w w' : World} {A : Option Addr} {n c : Nat} {bs : List Int} (h : IsBytes w A n c bs) (hb : Below w.heap.size w w') : IsBytes w' A n c bs := ⟨h.1, h.2.1, h.2.2.1, (h.2.2.2.below hb).more hb.size⟩
theorem open_bytes2 {H : Type} {enc : TypeId × Value → H} {W : World} {base : Nat} {sp : Nat → Bool} {held : Bool} {a0 : Option Addr} {len0 cap0 : Nat} {d : DataW H} {p : List MemPlace}
    (h : DataW.Trod enc Try.prog W base sp held 82 (.slice a0 len0 cap0) d p) : ∃ bs : List Int, IsBytes W a0 len0 cap0 bs := by
  obtain ⟨css, hcl, hfit, hr, hl, hm⟩ := open_flats (ks := [some .u8]) Try.underlying82 (by kernel_rfl) (by kernel_rfl) (by simp) h
  obtain ⟨zs, rfl, hz⟩ := choose_list (f := fun z : Int => [Value.int .u8 z]) (Q := fun z => 0 ≤ z ∧ z ≤ 255) css (fun cs hc => by
    match cs, hfit cs hc with
    | [_], ⟨⟨z, rfl, wz⟩, _⟩ => exact ⟨z, bounds_u8 wz, rfl⟩)
  refine ⟨zs, by simpa using hcl, ⟨hl, hm⟩, hz, ?_⟩
  have e : (zs.map (fun z : Int => [Value.int .u8 z])).flatten = zs.map (Value.int .u8) := by
    clear hr hfit hcl hz
    induction zs with
    | nil => rfl
    | cons z zs ih => simp only [List.map_cons, List.flatten_cons, ih]; rfl
  rwa [e] at hr
theorem Reads.take1 {w : World} {B n k : Nat} {A : Option Addr} {bs : List Int} (h : Reads w B 1 A n (bs.map (Value.int .u8))) (hk : k ≤ n) : Reads w B 1 A k ((bs.take k).map (Value.int .u8)) := by
  have hz := h.1
  rw [List.length_map, Nat.mul_one] at hz
  refine ⟨by rw [List.length_map, List.length_take]; omega, fun hk0 => ?_⟩
  obtain ⟨ad, e, hb, hc⟩ := h.2 (by omega)
  refine ⟨ad, e, hb, fun j u hj => hc j u ?_⟩
  have hjk : j < k := by
    have := (List.getElem?_eq_some_iff.1 hj).1
    rw [List.length_map, List.length_take] at this
    omega
  rwa [List.getElem?_map, List.getElem?_take_of_lt hjk, ← List.getElem?_map] at hj
theorem Reads.drop1 {w : World} {B n k c : Nat} {ad : Addr} {bs : List Int} (h : Reads w B 1 (some ad) n (bs.map (Value.int .u8))) (hk : k ≤ n) (hc : n < c) : Reads w B 1 (some (ad.add k)) (n - k) ((bs.drop k).map (Value.int .u8)) := by
  have := h.cut (k := k) (cap := c) hk (by omega)
  rw [if_neg (by omega), Nat.mul_one] at this
  rw [List.map_drop]
  exact this
theorem or8_u32 (x y : Int) (h1 : 0 ≤ x) (h2 : x < 16777216) (h3 : 0 ≤ y) (h4 : y < 256) : bits .or .u32 (IntKind.u32.wrap (x * 256)) y = x * 256 + y := by
  rw [show IntKind.u32.wrap (x * 256) = x * 256 by rw [IntKind.wrap_u32]; omega, u32_or (x * 256) y (by omega) (by omega) h3 (by omega), nat_join 8 _ _ (by omega) (by omega)]
  omega
theorem own_keptG {w w' : World} {base g : Nat} {e : TypeId} {size n : Nat} {v : Value} {xs : List Value} (h : w.ownsRow base e size v n xs) (hk : Kept [g] w w') (hg : g < base) : w'.ownsRow base e size v n xs :=
  ⟨h.1, h.2.imp id fun ⟨g', cap, cur, h1, h2, h3, h4⟩ => ⟨g', cap, cur, h1, h2, (hk.block g' (Array.getElem?_eq_some_iff.1 h3).1 (by simp; omega)).trans h3, h4⟩⟩
theorem bytes_ext {a b : ByteArray} (h : a.toList = b.toList) : a = b := Go.WideShapes.bytes_inj (by rw [← ByteArray.toList_eq, ← ByteArray.toList_eq, h])
def Loaded (w : World) (b : List Int) (read : List RouteV → Prop) (e : Ending) (w' : World) : Prop :=
  ∃ v E out, e = .returned (.tuple #[v, .int .i64 E]) ∧ LoadIs b read E out ∧ OwnRs w' w.heap.size v out ∧ Below w.heap.size w w'
theorem loaded_bad {w w' : World} {b : List Int} {read : List RouteV → Prop} {E : Int} (h : LoadIs b read E []) (hb : Below w.heap.size w w') : Loaded w b read (.returned (.tuple #[.slice none 0 0, .int .i64 E])) w' :=
  ⟨_, E, [], rfl, h, World.ownsRow_nil _ _ _ _, hb⟩
theorem save_all_bytes {S : List RouteV} (h : ∀ r ∈ S, RouteB r ∧ r.p.Ok) (hl : S.length ≤ 60) : ∀ x ∈ saveL S ++ tailL (sumOf (saveL S)), 0 ≤ x ∧ x ≤ 255 := by
  intro x hx
  rcases List.mem_append.1 hx with hx | hx
  · exact save_bytes (fun r hr => (h r hr).1) hl x hx
  · have := sumOf_range (saveL S)
    unfold tailL at hx
    simp at hx
    rcases hx with rfl | rfl | rfl | rfl <;> omega
/-- What is read so far is of words. -/
theorem routeN_ok {s : List Int × Bool} (hb : ∀ x ∈ s.1, 0 ≤ x ∧ x ≤ 255) : (routeN s).1.Ok ∧ ∀ x ∈ (routeN s).2.1, 0 ≤ x ∧ x ≤ 255 := by
  have m1 := takeN_mem hb
  have m2 := takeN_mem m1.2
  unfold routeN
  simp only
  split
  · exact ⟨⟨by simp, by simp, by simp only; omega, by simp⟩, m2.2⟩
  · have hO := octsTo_bound ((takeN s).1 != 0) (((takeN (takeN s).2).1 + 7) / 8).toNat (takeN (takeN s).2).2 m2.2 (widN ((takeN s).1 != 0) / 8)
    generalize octsTo ((takeN s).1 != 0) (((takeN (takeN s).2).1 + 7) / 8).toNat (takeN (takeN s).2).2 (widN ((takeN s).1 != 0) / 8) = o at *
    have m3 := takeN_mem hO.mem
    have m4 := takeN_mem m3.2
    have h1 := hO.h1
    have l1 := hO.l1
    have p8 : (256 ^ 8 : Nat) = 18446744073709551616 := by decide
    have e1 : (256 ^ (min (widN ((takeN s).1 != 0) / 8) 8) : Nat) ≤ 256 ^ 8 := Nat.pow_le_pow_right (by omega) (by omega)
    have e2 : (256 ^ (if ((takeN s).1 != 0) = true then widN ((takeN s).1 != 0) / 8 - 8 else widN ((takeN s).1 != 0) / 8) : Nat) ≤ 256 ^ 8 := Nat.pow_le_pow_right (by omega) (by
      cases ((takeN s).1 != 0) <;> simp [widN])
    rw [p8] at e1 e2
    exact ⟨⟨⟨hO.h0, by simp only; omega⟩, ⟨hO.l0, by simp only; omega⟩, by simp only; omega, by simp only; omega⟩, m4.2⟩
theorem loadTo_ok : ∀ (i : Nat) (s : List Int × Bool) (out : List RouteV), (∀ x ∈ s.1, 0 ≤ x ∧ x ≤ 255) → (∀ r ∈ out, r.Ok) → ∀ r ∈ (loadTo i s out).1, r.Ok
  | 0, _, _, _, ho => ho
  | i + 1, s, out, hb, ho => by
    unfold loadTo
    split
    · exact ho
    · have h := routeN_ok hb
      refine loadTo_ok i _ _ h.2 (fun r hr => ?_)
      rcases List.mem_append.1 hr with hr | hr
      · exact ho r hr
      · simp at hr; subst hr; exact h.1
theorem loadS_mem {b : List Int} (hb : ∀ x ∈ b, 0 ≤ x ∧ x ≤ 255) : ∀ x ∈ (loadS b).1, 0 ≤ x ∧ x ≤ 255 := fun x hx => hb x (List.mem_of_mem_take (List.mem_of_mem_drop hx))
theorem readP_ok {b : List Int} (hb : ∀ x ∈ b, 0 ≤ x ∧ x ≤ 255) (o : List RouteV) (h : readP b o) : ∀ r ∈ o, r.Ok := by
  have := loadTo_ok (takeN (loadS b)).1.toNat (takeN (loadS b)).2 [] (takeN_mem (loadS_mem hb)).2 (by simp)
  unfold readP loadP at h
  rw [h] at this
  exact this

set_option maxRecDepth 100000 in
set_option maxHeartbeats 3200000 in
theorem load_any {w : World} {A : Option Addr} {n c : Nat} {bs : List Int} (h : IsBytes w A n c bs) :
    Calls Try.prog 40 #[.slice A n c] w (Loaded w bs (readP bs)) := by
  obtain ⟨hz, ⟨hnc, hcm⟩, hby, hr⟩ := h
  unfold maxLen at hcm
  obtain ⟨post, hpost⟩ : ∃ post, Loaded w bs (readP bs) = post := ⟨_, rfl⟩
  have HP := Lib.hid hpost
  rw [hpost]
  clear hpost
  have k4 : IntKind.i64.wrap ((n : Int) - 4) = (n : Int) - 4 := by rw [IntWalk.i64_in _ (by omega)]
  by_cases hn8 : n < 8
  · have hF : loadF bs = 11 := by unfold loadF; rw [if_pos (by omega)]
    have HF := Lib.hid (show LoadIs bs (readP bs) 11 [] from .inl ⟨by rw [hF]; decide, hF.symm, rfl⟩)
    have d1 : decide ((n : Int) - 4 < 4) = true := by simp; omega
    clear hF hr hby
    go_enter Try.func40, Try.ntmps40
    go_wp2
    (try go_ret2)
    rw [← HP.out]
    exact loaded_bad HF.out (Below.refl _ _)
  have d1 : decide ((n : Int) - 4 < 4) = false := by simp; omega
  by_cases hn36 : 3600 < n
  · have hF : loadF bs = 1 := by unfold loadF; rw [if_neg (by omega), if_pos (by omega)]
    have HF := Lib.hid (show LoadIs bs (readP bs) 1 [] from .inl ⟨by rw [hF]; decide, hF.symm, rfl⟩)
    have d2 : decide ((3600 : Int) < n) = true := by simp; omega
    clear hF hr hby
    go_enter Try.func40, Try.ntmps40
    go_wp2
    (try go_ret2)
    rw [← HP.out]
    exact loaded_bad HF.out (Below.refl _ _)
  obtain ⟨ad, rfl, hab, -⟩ := hr.2 (by omega)
  obtain ⟨k, hk⟩ : ∃ k, n - 4 = k := ⟨_, rfl⟩
  have hnk : n = k + 4 := by omega
  subst hnk
  have hkc : k < c := by omega
  have ki : ((k + 4 : Nat) : Int) - 4 = (k : Int) := by omega
  have HR := Lib.hid hr
  have HBY := Lib.hid hby
  have HZ := Lib.hid hz
  have HTL : Hid (∀ (W : World), Below w.heap.size w W → Reads W w.heap.size 1 (some (ad.add k)) 4 ((bs.drop k).map (Value.int .u8))) := by
    intro W hb
    have := (hr.below hb).cut (k := k) (cap := c) (by omega) (by omega)
    rw [if_neg (by omega), Nat.mul_one, Nat.add_sub_cancel_left, ← List.map_drop] at this
    exact this
  have HHD : Hid (∀ (W : World), Below w.heap.size w W → Reads W w.heap.size 1 (some ad) k ((bs.take k).map (Value.int .u8))) := fun W hb => (hr.below hb).take1 (by omega)
  clear hr hby hk
  go_enter Try.func40, Try.ntmps40
  go_wp2
  obtain ⟨TL, hTL⟩ : ∃ TL, bs.drop k = TL := ⟨_, rfl⟩
  have htl : TL.length = 4 := by rw [← hTL, List.length_drop, HZ.out]; omega
  have htb : Hid (∀ x ∈ TL, 0 ≤ x ∧ x ≤ 255) := fun x hx => HBY.out x (by rw [← hTL] at hx; exact List.mem_of_mem_drop hx)
  have HTL0 := Lib.hid (HTL.out w (Below.refl _ _))
  rw [hTL] at HTL0
  have HTLE := Lib.hid hTL
  have HLEN := Lib.hid htl
  clear hTL htl
  go_loop [27, 5] (fun i m => ∃ j : Nat, j ≤ 4 ∧ i = .int .i64 j ∧ m = .int .u32 (beN (TL.take j))) (fun i _ => 4 - (intOf i).toNat)
  case atStart => exact ⟨0, by omega, rfl, rfl⟩
  case round =>
    obtain ⟨j, hj, rfl, rfl⟩ := hrel
    by_cases hlt : j < 4
    · obtain ⟨ad', x, e1, hx, htk, -, hm⟩ := HTL0.out.at1 hlt
      injection e1 with e1
      subst e1
      have hxb := htb.out x hm
      have hbd := beN_bound (TL.take j) (fun y hy => htb.out y (List.mem_of_mem_take hy))
      rw [List.length_take, HLEN.out] at hbd
      have hp : (256 ^ (min j 4) : Nat) ≤ 256 ^ 3 := Nat.pow_le_pow_right (by omega) (by omega)
      have hp3 : (256 ^ 3 : Nat) = 16777216 := by decide
      rw [hp3] at hp
      have hv : Hid (beN (TL.take (j + 1)) = beN (TL.take j) * 256 + x) := by show _ = _; rw [htk, beN_snoc]
      have HV : Hid (bits .or .u32 (IntKind.u32.wrap (beN (TL.take j) * 256)) x = beN (TL.take j) * 256 + x) := or8_u32 _ _ hbd.1 (by omega) (by omega) (by omega)
      clear hbd hp hp3 htk hm
      go_wp2
      go_round
      case rel => exact ⟨j + 1, by omega, by go_num, by rw [hv.out]; exact congrArg _ HV.out⟩
      case measure => simp [intOf]; omega
    · obtain rfl : j = 4 := by omega
      have e4 : TL.take 4 = TL := List.take_of_length_le (by rw [HLEN.out]; exact Nat.le_refl _)
      rw [e4]
      have CS := Lib.hid (sum_any (some ad) k c (bs.take k) w (by omega) (fun x hx => HBY.out x (List.mem_of_mem_take hx)) (by rw [List.length_take, HZ.out]; omega) (HHD.out w (Below.refl _ _)))
      obtain ⟨sm, hsm⟩ : ∃ sm, sumOf (bs.take k) = sm := ⟨_, rfl⟩
      obtain ⟨sn, hsn⟩ : ∃ sn, beN TL = sn := ⟨_, rfl⟩
      rw [hsm] at CS
      rw [hsn]
      have hlf : loadF bs = if sm = sn then 0 else 12 := by
        unfold loadF
        rw [if_neg (by rw [HZ.out]; omega), if_neg (by rw [HZ.out]; omega), HZ.out, Nat.add_sub_cancel, hsm, HTLE.out, hsn]
      have HLF := Lib.hid hlf
      clear hsm hsn hlf e4
      by_cases hse : sm = sn
      rotate_left
      · have HFI := Lib.hid (show LoadIs bs (readP bs) 12 [] from .inl ⟨by rw [HLF.out, if_neg hse]; decide, by rw [HLF.out, if_neg hse], rfl⟩)
        have dn : (sn != sm) = true := by simp; omega
        go_wp2_with fail
        refine CS.out.mono ?_
        rintro e w2 ⟨rfl, rfl⟩
        go_wp2
        (try go_ret2)
        rw [← HP.out]
        exact loaded_bad HFI.out (Below.refl _ _)
      · have HF0 : Hid (loadF bs = 0) := by show _ = _; rw [HLF.out, if_pos hse]
        have dn : (sn != sm) = false := by simp; omega
        have k3 : 3 ≤ k := by omega
        clear hse HLF
        go_wp2_with fail
        refine CS.out.mono ?_
        rintro e w2 ⟨rfl, rfl⟩
        have hkn : (bs.take k).length = k := by rw [List.length_take, HZ.out]; omega
        obtain ⟨X, hX⟩ : ∃ X : World, X = w2.alloc (.cells #[.slice (some ⟨ad.block, ad.off + 3, none⟩) (k - 3) (c - 3), .bool false] 178) := ⟨_, rfl⟩
        have hbX : Below w2.heap.size w2 X := by rw [hX]; exact (Below.refl _ _).alloc (Nat.le_refl _) _
        have hrX : Rdr X w2.heap.size w2.heap.size (loadS bs) := by
          have hls : loadS bs = ((bs.take k).drop 3, false) := by unfold loadS; rw [HZ.out, Nat.add_sub_cancel]
          rw [hls]
          refine ⟨⟨ad.block, ad.off + 3, none⟩, k - 3, c - 3, by rw [hX]; exact Blk.new _ _ _, by rw [List.length_drop, hkn], by omega, by unfold maxLen; omega, ?_, Nat.le_refl _⟩
          have := (HHD.out X hbX).drop1 (k := 3) (c := c) k3 hkc
          rwa [show ad.add 3 = ⟨ad.block, ad.off + 3, none⟩ by simp [Addr.add]] at this
        have hgX : w2.heap.size < X.heap.size := by rw [hX]; simp
        have CT := Lib.hid (take_any hrX (loadS_mem HBY.out))
        have mt := takeN_mem (loadS_mem HBY.out)
        obtain ⟨LP, hLP⟩ : ∃ LP, loadP bs = LP := ⟨_, rfl⟩
        have hlp := hLP
        unfold loadP at hlp
        obtain ⟨t, ht⟩ : ∃ t, takeN (loadS bs) = t := ⟨_, rfl⟩
        rw [ht] at CT mt hlp
        obtain ⟨i0, s0⟩ := t
        simp only at mt hlp
        obtain ⟨j0, rfl⟩ : ∃ j0 : Nat, i0 = j0 := ⟨i0.toNat, by omega⟩
        rw [Int.toNat_natCast] at hlp
        have HLP0 := Lib.hid hlp
        have HLP := Lib.hid hLP
        have HM0 := Lib.hid mt.2
        have hj0 := mt.1.2
        have HBX := Lib.hid hbX
        have HX := Lib.hid hX
        clear hrX mt ht hlp hLP hbX hX hkn
        go_wp2_with fail
        rw [← HX.out]
        refine CT.out.mono ?_
        rintro e w3 ⟨rfl, hr3, hk3⟩
        have HR3 := Lib.hid hr3
        have HB3 : Hid (Below w2.heap.size w2 w3) := HBX.out.trans (hk3.below (by simp) (by omega))
        have hs3 : w2.heap.size + 1 ≤ w3.heap.size := by have := hk3.size; omega
        clear hr3 hk3 CT
        simp only
        go_wp2
        go_loopw [10, 9] (fun i v wr => ∃ (j : Nat) (s : List Int × Bool) (out : List RouteV), i = .int .i64 j ∧ j + out.length ≤ 255 ∧ Hid (∀ x ∈ s.1, 0 ≤ x ∧ x ≤ 255) ∧ Hid (loadTo j s out = LP) ∧ Hid (∀ r ∈ out, r.Ok) ∧ Hid (Rdr wr w2.heap.size w2.heap.size s) ∧ Hid (OwnRs wr (w2.heap.size + 1) v out) ∧ Hid (Below w2.heap.size w2 wr) ∧ w2.heap.size + 1 ≤ wr.heap.size) (fun i _ _ => (intOf i).toNat)
        case atStart => exact ⟨j0, s0, [], rfl, by simp; omega, HM0.out, HLP0.out, (fun r hr => by simp at hr), HR3.out, World.ownsRow_nil _ _ _ _, HB3.out, hs3⟩
        case round =>
          obtain ⟨j, s, out, rfl, hjl, hmem, hlt, hok, hrd, hown, hbw, hsw⟩ := hrel
          obtain ⟨wo, rfl⟩ : ∃ wo : World, wo = wr := ⟨_, rfl⟩
          obtain ⟨ad4, m4, c4, hkr, -⟩ := hrd.out
          have r1 := hkr.cell 1
          simp at r1
          have hgo := hkr.lt
          clear hkr
          obtain ⟨l, bad⟩ := s
          simp only at r1
          cases bad with
          | true =>
            have hLP : LP = (out, true) := by
              rw [← hlt.out]
              cases j with
              | zero => rfl
              | succ j => unfold loadTo; rw [if_pos rfl]
            have HFI := Lib.hid (show LoadIs bs (readP bs) 4 [] from .inr ⟨HF0.out, .inr ⟨rfl, rfl, fun ⟨o, ho, _⟩ => by unfold readP at ho; rw [HLP.out, hLP] at ho; simp at ho⟩⟩)
            clear hLP
            by_cases hj : 0 < j
            · have dj : decide ((0 : Int) < (j : Int)) = true := by simpa using hj
              go_wp2
              (try go_ret2)
              rw [← HP.out]
              exact loaded_bad HFI.out hbw.out
            · have dj : decide ((0 : Int) < (j : Int)) = false := by simpa using hj
              go_wp2
              (try go_ret2)
              rw [← HP.out]
              exact loaded_bad HFI.out hbw.out
          | false =>
            by_cases hj : 0 < j
            · obtain ⟨j', rfl⟩ : ∃ j', j = j' + 1 := ⟨j - 1, by omega⟩
              have dj : decide ((0 : Int) < ((j' + 1 : Nat) : Int)) = true := by rw [decide_eq_true_iff]; omega
              have CR := Lib.hid (route_any hrd.out hmem.out)
              have hro := routeN_ok hmem.out
              have hl2 := hlt.out
              unfold loadTo at hl2
              rw [if_neg (by simp)] at hl2
              obtain ⟨R, hR⟩ : ∃ R, routeN (l, false) = R := ⟨_, rfl⟩
              rw [hR] at CR hro hl2
              obtain ⟨⟨⟨six, hi, lo, pn⟩, hop⟩, s'⟩ := R
              simp only at hro hl2
              have HRO := Lib.hid hro
              have HL2 := Lib.hid hl2
              obtain ⟨ol, hol⟩ : ∃ ol, out.length = ol := ⟨_, rfl⟩
              rw [hol] at hjl
              have HOL := Lib.hid hol
              clear hro hl2 hR hol
              go_wp2_with fail
              refine CR.out.mono ?_
              rintro e w4 ⟨rfl, hr4, hk4⟩
              have HR4 := Lib.hid hr4
              have hs4 : w2.heap.size + 1 ≤ w4.heap.size := by have := hk4.size; omega
              have ho4 := own_keptG hown.out hk4 (Nat.lt_succ_self _)
              unfold OwnRs at hown
              rw [HOL.out] at ho4
              have HO4 := Lib.hid ho4
              have HB4 : Hid (Below w2.heap.size w2 w4) := hbw.out.trans (hk4.below (by simp) (by omega))
              clear hr4 hk4 ho4
              simp only
              go_wp2_with (at_builtin; go_loud (refine wpList_append_oneN (us := [.bool six, .int .u64 hi, .int .u64 lo, .int .i64 pn, .int .i64 hop]) rfl _ _ 26 rfl (w2.heap.size + 1) _ 5 40 Try.underlying26 infoRouteP rfl (by decide) _ _ _ rfl rfl rfl HO4.out hs4 rfl (by intro u hu; simp at hu; rcases hu with rfl | rfl | rfl | rfl | rfl <;> rfl) (by unfold maxLen; omega) (by omega) ?_))
              intro v5 w5 hown5 hb5 hs5 hk5
              have HO5 : Hid (OwnRs w5 (w2.heap.size + 1) v5 (out ++ [⟨⟨six, hi, lo, pn⟩, hop⟩])) := by
                show World.ownsRow _ _ _ _ _ _ _
                rw [List.length_append, List.flatMap_append, HOL.out]
                exact hown5
              have HR5 : Hid (Rdr w5 w2.heap.size w2.heap.size s') := HR4.out.keep (hb5.mono (by omega)) (hk5 _ (by omega) (fun e => by have := own_base HO4.out _ e; omega))
              have HB5 : Hid (Below w2.heap.size w2 w5) := HB4.out.trans (hb5.mono (by omega))
              clear hown5 hb5 hk5
              go_wp2
              go_roundw
              case rel => exact ⟨j', s', out ++ [(⟨⟨six, hi, lo, pn⟩, hop⟩ : RouteV)], by go_num, by rw [List.length_append, HOL.out]; simp; omega, HRO.out.2, HL2.out, (fun r hr => by
                  rcases List.mem_append.1 hr with hr | hr
                  · exact hok.out r hr
                  · simp at hr; subst hr; exact HRO.out.1), HR5.out, HO5.out, HB5.out, by omega⟩
              case measure => simp [intOf]
            · obtain rfl : j = 0 := by omega
              have hLP : LP = (out, false) := hlt.out.symm
              obtain ⟨Ao, co, rfl, hco, hro⟩ := own_reads hown.out
              have hlen : out.length ≤ 255 := by omega
              have HIR : Hid (IsRoutes wo Ao out.length co out) := ⟨rfl, hco, hok.out, hro⟩
              have CK := Lib.hid (tableCheck_is HIR.out)
              have CSV := Lib.hid (fun (W : World) (hb : Below wo.heap.size wo W) => imgSave_any (HIR.out.below hb))
              obtain ⟨f, hf⟩ : ∃ f, routesF out = f := ⟨_, rfl⟩
              rw [hf] at CK CSV
              have HF := Lib.hid hf
              have HRP : Hid (readP bs out) := HLP.out.trans hLP
              have HUQ : Hid (∀ o, readP bs o → o = out) := fun o ho => by
                have h1 := HRP.out
                unfold readP at ho h1
                rw [ho] at h1
                injection h1
              have HVL := Lib.hid (fun h0 => (valid_of hok.out h0).1)
              obtain ⟨ol, hol⟩ : ∃ ol, out.length = ol := ⟨_, rfl⟩
              have HOL := Lib.hid hol
              rw [hol] at CK CSV ⊢
              have hno : out.length = ol := hol
              clear hLP hf hco hro hlen hlt hmem hok hrd hjl hno hol
              by_cases hf0 : f = 0
              rotate_left
              · have HFI := Lib.hid (show LoadIs bs (readP bs) 4 [] from .inr ⟨HF0.out, .inr ⟨rfl, rfl, fun ⟨o, ho, hg⟩ => by
                  rw [HUQ.out o ho] at hg
                  exact hf0 (HF.out.symm.trans hg.1)⟩⟩)
                have df : (f != 0) = true := by simpa using hf0
                go_wp2_with fail
                refine CK.out.mono ?_
                rintro e w4 ⟨rfl, hb4⟩
                have HB4 : Hid (Below w2.heap.size w2 w4) := below_step hbw.out hb4
                clear hb4
                go_wp2
                (try go_ret2)
                rw [← HP.out]
                exact loaded_bad HFI.out HB4.out
              · subst hf0
                go_wp2_with fail
                refine CK.out.mono ?_
                rintro e w4 ⟨rfl, hb4⟩
                have CSV4 := Lib.hid (CSV.out w4 hb4)
                have HB4 : Hid (Below w2.heap.size w2 w4) := below_step hbw.out hb4
                have HO4 : Hid (OwnRs w4 w2.heap.size (.slice Ao ol co) out) := by
                  have h9 := hown.out
                  unfold OwnRs at h9
                  have h10 := own_mono (own_below h9 hb4) (Nat.le_succ w2.heap.size)
                  rw [HOL.out] at h10
                  show World.ownsRow _ _ _ _ _ _ _
                  rw [HOL.out]
                  exact h10
                have hs4 : w2.heap.size ≤ w4.heap.size := by have := hb4.size; omega
                clear hb4 CK CSV
                go_wp2_with fail
                refine CSV4.out.mono ?_
                rintro e w5 ⟨v5, E5, b5, rfl, hsv, hown5, hb5⟩
                rcases hsv with ⟨h0, _⟩ | ⟨-, rfl, S, hS, hb5e⟩
                · exact absurd rfl h0
                have HB5 := Lib.hid (below_step HB4.out hb5)
                have HO5 := Lib.hid (own_below HO4.out hb5)
                have hsb := save_all_bytes (good_ok (fun r hr => readP_ok HBY.out out HRP.out r hr) HF.out hS) (by rw [hS.1.length_eq]; exact (valid_of (fun r hr => readP_ok HBY.out out HRP.out r hr) HF.out).2)
                rw [← hb5e] at hsb
                have hl5 : 4 ≤ b5.length := by rw [hb5e]; simp [tailL]
                obtain ⟨A5, c5, rfl, -, hr5⟩ := own_reads hown5
                obtain ⟨a5, rfl, -, -⟩ := hr5.2 (by omega)
                have cv5 := conv_str (c := c5) hsb rfl hr5
                have cvb := conv_str (c := c) HBY.out HZ.out (HR.out.below HB5.out)
                have HS := Lib.hid hS
                have HE5 := Lib.hid hb5e
                have HSB := Lib.hid hsb
                obtain ⟨l5, hl5e⟩ : ∃ l5, b5.length = l5 := ⟨_, rfl⟩
                rw [hl5e] at cv5 ⊢
                have hown' := hown.out
                clear hown'
                clear hown5 hb5 hS hb5e hsb hr5 hl5 hl5e CSV4
                by_cases he : b5 = bs
                · have HFI := Lib.hid (show LoadIs bs (readP bs) 0 out from .inr ⟨HF0.out, .inl ⟨rfl, HRP.out, HF.out, S, HS.out, by rw [← he]; exact HE5.out⟩⟩)
                  have ds : ((strB b5).toList == (strB bs).toList) = true := by rw [he]; simp
                  clear he
                  go_wp2
                  (try go_ret2)
                  rw [← HP.out]
                  exact ⟨_, 0, out, rfl, HFI.out, by show World.ownsRow _ _ _ _ _ _ _; exact HO5.out, HB5.out⟩
                · have HFI := Lib.hid (show LoadIs bs (readP bs) 4 [] from .inr ⟨HF0.out, .inr ⟨rfl, rfl, fun ⟨o, ho, hg⟩ => by
                    rw [HUQ.out o ho] at hg
                    obtain ⟨_, S', hS', hb'⟩ := hg
                    rw [← sortedOf_unique (HVL.out HF.out) HS.out hS'] at hb'
                    exact he (HE5.out.trans hb'.symm)⟩⟩)
                  have ds : ((strB b5).toList == (strB bs).toList) = false := by
                    rw [beq_eq_false_iff_ne]
                    exact fun h => he (strB_inj HSB.out HBY.out (bytes_ext h))
                  clear he
                  go_wp2
                  (try go_ret2)
                  rw [← HP.out]
                  exact loaded_bad HFI.out HB5.out

end Go.Proofs.Ytmljdjakbbedlaa
