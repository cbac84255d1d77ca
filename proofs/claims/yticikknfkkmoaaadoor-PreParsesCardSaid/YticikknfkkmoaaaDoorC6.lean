/-
  
  
  
  
  
  
  
  
  
  
  
  
  
  
  
-/
import Derived.Test.YticikknfkkmoaaaDoorC1
import Derived.Test.YticikknfkkmoaaaDoorC5
import Derived.Shelf.Vars
import Derived.Test.YticikknfkkmoaaaDoorRows
import Derived.Test.YticikknfkkmoaaaDoorC2
import Derived.Test.YticikknfkkmoaaaDoorC4
import Derived.LoopN
import Derived.Laws.MathBits
import Derived.BigRegion
namespace Go.Proofs.YticikknfkkmoaaaDoor
open Go.ChangeShapes Go.WideShapes Go.ChangeAt Go.RowKit

theorem err_of_laid {L : List (String × DataW Unit)} {w : World} (h : laidMetH Tryd.prog L w) (name : String) {g : Nat} {t : TypeId} {ms : Array (String × TypeId)} {u : String} {x : DataW Unit}
    (hf : L.filter (fun x => x.1 == name) = [(name, .iface u x)]) (hh : (DataW.iface u x : DataW Unit).handleName?.isNone = true)
    (hg : Tryd.prog.globalNamed name = some g) (hty : (Tryd.prog.globals[g]?).map (·.type) = some t) (ht : Tryd.prog.underlying t = some (.interface ms)) :
    ∃ a, w.cell? ⟨g, 0, none⟩ = some a ∧ (a = .nilIface ∨ ∃ te pe, a = .iface te pe) := by
  obtain ⟨ps, ⟨g', t', cs, fuel, p, q, hg', ht', hvar, hd, _, _⟩, _⟩ := laid_one h _ _ hf hh
  obtain rfl := Option.some.inj (hg.symm.trans hg')
  obtain rfl := Option.some.inj (hty.symm.trans ht')
  have hc := World.var?_cell hg hvar 0
  obtain ⟨l⟩ := cs
  cases fuel with
  | zero => simp [DataW.trod] at hd
  | succ fuel =>
    cases l with
    | nil => simp [DataW.trod, ht] at hd
    | cons v r =>
      cases r with
      | cons v' r => cases v <;> simp [DataW.trod, ht] at hd
      | nil =>
        refine ⟨v, by simpa using hc, ?_⟩
        cases v <;> first | exact .inl rfl | exact .inr ⟨_, _, rfl⟩ | (simp [DataW.trod, ht] at hd; done)

theorem law_lift_shaped {H : Type} {enc : TypeId × Value → H} {C : Checked} {os : Os} {f : FuncId} {fn : Func} {s : ChangeSpec} {tb : TypeId} {ts : List TypeId} {L : List (String × DataW Unit)}
    (own : ownKnob C.prog.godebug = none) (laid : laidOutB C.prog = true) (started : os.Started) (noInit : C.prog.inits.idxOf? f = none) (hfn : C.prog.funcs[f]? = some fn)
    (witness : ∃ (w : World) (tape : Tape) (i : Input), w.os = os ∧ (w.forCall tape i).Shaped C.prog ∧ i.vars = [] ∧ Input.okWide C.prog (w.forCall tape i) .any w.heap.size f i ∧
      ((s.pre enc C.prog fn [] false (w.forCall tape i).memory i.args ∧ laidMetH C.prog L (w.forCall tape i).memory) ∧ sizedMet enc C.prog fn (OpenSpec.ofChange s) false (w.forCall tape i).memory i.args) ∧ Assume.holds {} C.prog (lone (Frame.enter C.prog f i.args .normal) [] (w.forCall tape i)))
    (hts : fn.params.toList = ts) (hpar : ∀ t ∈ ts, C.prog.readableRec t = true ∧ t < C.prog.types.size)
    (hres : fn.resultTypes = #[tb]) (htb : C.prog.underlying tb = some .bool) (hvars : s.vars = []) (hvt : s.plain.varTypes C.prog = [])
    (hspec : ∀ ds : List (DataW H), ds.length = ts.length → (s.fn H (ds ++ [])).results = [.lit (.bool true)] ∧ (s.fn H (ds ++ [])).args = ds ∧ (s.fn H (ds ++ [])).vars = [])
    (walk : ∀ (W : World) (vs : Array Value) (ds : List (DataW H)) (ps : List MemPlace), ArgsOk C.prog ts H enc W vs.toList ds ps → laidMetH C.prog L W → W.ShapedOpen C.prog →
      Calls C.prog f vs W fun e W' => e = .returned (.bool true) ∧ Below W.heap.size W W') :
    ReturnsInHanded {} C os f .any (fun w args => (s.pre enc C.prog fn [] false w args ∧ laidMetH C.prog L w) ∧ sizedMet enc C.prog fn (OpenSpec.ofChange s) false w args) (s.post enc C.prog fn false true false false) := by
  refine returnsInHanded_of_calls own started noInit witness ?_
  intro w tape i _ hsh _ hok hpre _
  obtain ⟨_, _, _, fn', hfn', _, _, _, _, hval⟩ := hok
  have e : fn' = fn := Option.some.inj (hfn'.symm.trans hfn)
  subst e
  obtain ⟨⟨⟨ds, gs, before, hw, _⟩, hx⟩, hz⟩ := hpre
  have hW' := DataW.Whole.of_heap (w' := w.forCall tape i) (by rfl) hw
  have hsz := hz.weights hw
  have hL : laidMetH C.prog L (w.forCall tape i) := laidMetH.of_heap (by rfl) hx
  generalize w.forCall tape i = W at hsh hval hW' hL ⊢
  have hW := hW'
  obtain ⟨p, q, hA, hV, rfl, _, _⟩ := hW
  rw [hvars] at hV
  obtain ⟨rfl, rfl⟩ := trodVars_none hV
  rw [hts] at hA hsz
  simp only [List.append_nil] at hW'
  have hlt : ∀ x ∈ p, x.block < W.heap.size := fun x hx => by simpa using hW'.lt x hx
  have hl := trodAll_length _ _ _ _ hA
  obtain ⟨e1, e2, e3⟩ := hspec ds hl.1
  rw [show (OpenSpec.ofChange s).bare.plain.varTypes C.prog = [] from hvt] at hsz
  simp only [List.append_nil] at hsz
  refine (walk W i.args ds p ⟨hA, ⟨w.heap.size, fun j t v ht hv => hval j t v (by rw [← hts] at ht; simpa using ht) (by simpa using hv)⟩, hsz, hlt⟩ hL hsh).mono fun e W' he => ?_
  obtain ⟨rfl, hb⟩ := he
  refine ChangeSpec.post_blind ⟨ds, [], p, [], p, [], hW', ?_, ?_, ?_, hb.frame _, fun h => by cases h⟩
  · rw [e1, hres]
    exact trodAll_mk1 (shut_bool htb true)
  · rw [e2, hts]
    exact trodAll_below laid hb _ _ _ _ hpar hlt hA
  · rw [e3, hvars]
    rfl

theorem glo_of_laid {L : List (String × DataW Unit)} {w : World} (h : laidMetH Tryd.prog L w) (hs : w.ShapedOpen Tryd.prog)
    (h1 : L.filter (fun x => x.1 == "internal/strconv.uint64pow10") = [("internal/strconv.uint64pow10", Rows.laid_internal_strconv_uint64pow10)])
    (h2 : L.filter (fun x => x.1 == "math/bits.deBruijn64tab") = [("math/bits.deBruijn64tab", Rows.laid_math_bits_deBruijn64tab)])
    (h3 : L.filter (fun x => x.1 == "strconv.ErrSyntax") = [("strconv.ErrSyntax", Rows.laid_strconv_ErrSyntax)])
    (h4 : L.filter (fun x => x.1 == "strconv.ErrRange") = [("strconv.ErrRange", Rows.laid_strconv_ErrRange)]) : Glo w := by
  refine ⟨cell_of_shapedOpen_int (P := Tryd.prog) (t := 3) (zero := #[.int .i64 0]) hs (by decide +kernel) (by kernel_rfl) rfl (by kernel_rfl) (by kernel_rfl) Tryd.underlying3, ⟨?_, ?_⟩, tabs_of_laid h h1 h2⟩
  · exact err_of_laid h "strconv.ErrSyntax" h3 rfl (by kernel_rfl) (t := 46) (by kernel_rfl) Tryd.underlying46
  · exact err_of_laid h "strconv.ErrRange" h4 rfl (by kernel_rfl) (t := 46) (by kernel_rfl) Tryd.underlying46

end Go.Proofs.YticikknfkkmoaaaDoor

namespace Go.Proofs.YticikknfkkmoaaaDoor
open Go.ChangeShapes Go.WideShapes Go.ChangeAt Go.RowKit

def headNums : List Nat := [104, 97, 114, 110, 101, 115, 115, 32, 52, 49, 52, 52, 53, 54, 101, 48, 56, 52, 56, 48, 54, 49, 55, 51, 102, 56, 98, 54, 48, 57, 49, 100, 97, 101, 102, 51, 98, 49, 102, 51, 57, 57, 102, 101, 56, 48, 97, 51, 53, 56, 101, 50, 102, 98, 57, 57, 53, 52, 100, 97, 48, 98, 53, 55, 57, 57, 48, 97, 56, 56, 54, 102, 32, 99, 117, 116, 32, 97, 116, 32, 119, 104, 105, 112, 99, 111, 114, 100, 47, 119, 104, 105, 112, 99, 111, 114, 100, 108, 97, 119, 46, 65, 100, 100, 114, 80, 97, 114, 115, 101, 115, 32, 119, 104, 105, 112, 99, 111, 114, 100, 47, 119, 104, 105, 112, 99, 111, 114, 100, 108, 97, 119, 46, 80, 114, 101, 80, 97, 114, 115, 101, 115]
theorem headIs : Tryd.pinned.checked.prog.initOrder = String.ofList (headNums.map Char.ofNat) := by kernel_rfl
theorem headList : Tryd.pinned.checked.prog.initOrder.toList = headNums.map Char.ofNat := by rw [headIs, String.toList_ofList]
theorem cutIs : [Char.ofNat 99, Char.ofNat 117, Char.ofNat 116] = "cut".toList := by
  rw [show "cut" = String.ofList [Char.ofNat 99, Char.ofNat 117, Char.ofNat 116] from by kernel_rfl, String.toList_ofList]
theorem toList_ne {s o : String} (h : s ≠ o) : ¬ s.toList = o.toList := fun he => h (String.toList_inj.1 he)
theorem beq_ne {s o : String} (h : s ≠ o) : (s.toList == o.toList) = false := by simpa using toList_ne h
theorem strip_none (r : List (List Char)) : ∀ l : List String, (∀ o ∈ l, "cut" ≠ o) → stripLifts l ("cut".toList :: r) = ([], "cut".toList :: r)
  | [], _ => by unfold stripLifts; rfl
  | o :: l, h => by
    unfold stripLifts
    rw [beq_ne (h o (by simp)), if_neg (by simp)]
    exact strip_none r l (fun o' h' => h o' (by simp [h']))
def headRest : List (List Char) := (behindMainWord (wordsSigns (headNums.map Char.ofNat))).tail
theorem headWs : behindMainWord (wordsSigns Tryd.pinned.checked.prog.initOrder.toList) = "cut".toList :: headRest := by
  rw [headList, ← cutIs]
  kernel_rfl
theorem strip_head : stripLifts liftWords ("cut".toList :: headRest) = ([], "cut".toList :: headRest) := strip_none _ _ (by unfold liftWords; decide)
theorem laysLater_is : Tryd.pinned.checked.prog.laysLater = false := by kernel_rfl
theorem bearsReflect_is : Tryd.pinned.checked.prog.bearsReflect = false := by kernel_rfl
theorem doorFits_is : Tryd.pinned.checked.prog.doorFits [] = true := by kernel_rfl
theorem mayEnter_of {P : Program} {r : List (List Char)} {x : List Char} (h : behindMainWord (wordsSigns P.initOrder.toList) = x :: r) (hx : x = "cut".toList) (hs : stripLifts liftWords (x :: r) = ([], x :: r)) (h1 : P.laysLater = false) (h2 : P.bearsReflect = false) (h3 : P.doorFits [] = true) : P.mayEnter = true := by
  unfold Program.mayEnter
  rw [h]
  show ((_ || _) || _) = true
  rw [Bool.or_eq_true]
  right
  rw [hs, h1, h2, h3]
  show (((((some x == some "cut".toList) && _) && _) && _) && true) = true
  rw [hx, beq_self_eq_true]
  rfl
theorem mayEnter_is : Tryd.pinned.checked.prog.mayEnter = true := mayEnter_of headWs rfl strip_head laysLater_is bearsReflect_is doorFits_is
theorem headLifts_of {P : Program} {r : List (List Char)} {x : List Char} (h : behindMainWord (wordsSigns P.initOrder.toList) = x :: r) (hs : stripLifts liftWords (x :: r) = ([], x :: r)) : P.headLifts = [] := by
  unfold Program.headLifts
  rw [h, hs]
  show (if (some x == some "cut".toList) = true then [] else []) = []
  split <;> rfl
theorem headLifts_is : Tryd.pinned.checked.prog.headLifts = [] := headLifts_of headWs strip_head
theorem liftsFinal_of {P : Program} {r : List (List Char)} {x : List Char} (h : behindMainWord (wordsSigns P.initOrder.toList) = x :: r) (hl : P.headLifts = []) (hx : (some x == some "carried".toList) = false) : P.liftsFinal = false := by
  unfold Program.liftsFinal
  rw [h, hl]
  show ((some x == some "carried".toList && _) || false) = false
  rw [hx]
  rfl
theorem liftsFinal_is : Tryd.pinned.checked.prog.liftsFinal = false := liftsFinal_of headWs headLifts_is (by rw [Option.some_beq_some]; exact beq_ne (by decide))
theorem make_of {P : Program} {r : List (List Char)} {x : List Char} (h : behindMainWord (wordsSigns P.initOrder.toList) = x :: r) (h1 : (x == "gc".toList) = false) (h2 : (x == "spec".toList) = false) (hx : x = "cut".toList) : P.make = some .cut := by
  unfold Program.make
  rw [h]
  show (if (x == "gc".toList || x == "spec".toList) = true then some Make.whole else if (x == "cut".toList || _) = true then some Make.cut else _) = some Make.cut
  rw [h1, h2, if_neg (by decide), if_pos (by rw [hx, beq_self_eq_true]; rfl)]
theorem make_is : Tryd.pinned.checked.prog.make = some .cut := make_of headWs (beq_ne (by decide)) (beq_ne (by decide)) rfl
end Go.Proofs.YticikknfkkmoaaaDoor

namespace Go.Proofs.YticikknfkkmoaaaDoor
open Go.ChangeShapes Go.WideShapes Go.ChangeAt Go.RowKit

/-- The eight groups of an address of 128 bits. -/
def gps (hi lo : Int) : List Int := [hi / 281474976710656 % 65536, hi / 4294967296 % 65536, hi / 65536 % 65536, hi % 65536, lo / 281474976710656 % 65536, lo / 4294967296 % 65536, lo / 65536 % 65536, lo % 65536]
theorem and_low16 (z : Int) (h0 : 0 ≤ z) (h1 : z < 18446744073709551616) : bits .and .u64 z 65535 = z % 65536 := by go_bits2
theorem gps_eq (hi lo : Int) (h1 : 0 ≤ hi ∧ hi < 18446744073709551616) (h2 : 0 ≤ lo ∧ lo < 18446744073709551616) : gps hi lo = groups (⟨true, hi, lo⟩ : AV).v 128 16 128 := by
  obtain ⟨h, rfl⟩ : ∃ h : Nat, hi = h := ⟨hi.toNat, by omega⟩
  obtain ⟨l, rfl⟩ : ∃ l : Nat, lo = l := ⟨lo.toNat, by omega⟩
  rw [six_v]
  unfold groups
  rw [show (128 + 16 - 1) / 16 = 8 by decide]
  simp only [List.range_succ, List.range_zero, List.nil_append, List.map_cons, List.map_nil, List.cons_append]
  unfold gps gv
  simp only [List.cons.injEq, and_true]
  refine ⟨?_, ?_, ?_, ?_, ?_, ?_, ?_, ?_⟩ <;> (simp only [Nat.reduceMul, Nat.reduceAdd, Nat.reduceSub, show min 16 128 = 16 from rfl, show min 32 128 = 32 from rfl, show min 48 128 = 48 from rfl, show min 64 128 = 64 from rfl, show min 80 128 = 80 from rfl, show min 96 128 = 96 from rfl, show min 112 128 = 112 from rfl, show min 128 128 = 128 from rfl, Nat.reducePow, Nat.pow_zero, Nat.zero_add, Nat.mul_zero, Nat.sub_zero]; omega)
theorem gps_len (hi lo : Int) : (gps hi lo).length = 8 := rfl
theorem gps_lt (hi lo : Int) (_h1 : 0 ≤ hi) (_h2 : 0 ≤ lo) : ∀ x ∈ gps hi lo, 0 ≤ x ∧ x < 65536 := by
  intro x hx
  simp only [gps, List.mem_cons, List.not_mem_nil, or_false] at hx
  rcases hx with rfl | rfl | rfl | rfl | rfl | rfl | rfl | rfl <;> omega
set_option maxRecDepth 100000 in
set_option maxHeartbeats 1600000 in
theorem groups_any (six : Bool) (hi lo : Int) (w : World) (h1 : 0 ≤ hi ∧ hi < 18446744073709551616) (h2 : 0 ≤ lo ∧ lo < 18446744073709551616) :
    Calls Tryd.prog 24 #[.agg #[.bool six, .int .u64 hi, .int .u64 lo]] w fun e w' => e = .returned (.agg ((gps hi lo).map (Value.int .u64)).toArray) ∧ Below w.heap.size w w' := by
  go_enter Tryd.func24, Tryd.ntmps24
  go_wp2
  refine wp_loop_rounds 5 ?_
  rw [rounds_succ]
  go_wp2
  go_region
  go_wp2
  rw [rounds_succ]
  go_wp2
  go_region
  go_wp2
  rw [rounds_succ]
  go_wp2
  go_region
  go_wp2
  rw [rounds_succ]
  go_wp2
  go_region
  go_wp2
  rw [rounds_succ]
  go_wp2
  refine bodyPost_ret (v := .agg ((gps hi lo).map (Value.int .u64)).toArray) ?_ rfl ⟨rfl, ?_⟩
  · simp [results, Tryd.results24, go_sem, gps]
    refine ⟨?_, ?_, ?_, ?_, ?_, ?_, ?_, ?_⟩ <;> exact and_low16 _ (by omega) (by omega)
  · exact (((((((Below.refl _ _).alloc (Nat.le_refl _) _).alloc (by simp) _).alloc (by simp; omega) _).drew).drew).drew).drew

end Go.Proofs.YticikknfkkmoaaaDoor

namespace Go.Proofs.YticikknfkkmoaaaDoor
open Go.ChangeShapes Go.WideShapes Go.ChangeAt Go.RowKit

theorem takeWhile_step (p : Int → Bool) : ∀ (l : List Int) (k : Nat), k ≤ (l.takeWhile p).length → ∀ x, l[k]? = some x → (p x = true → k + 1 ≤ (l.takeWhile p).length) ∧ (p x = false → (l.takeWhile p).length = k)
  | [], _, _, _, hx => by simp at hx
  | y :: l, 0, _, x, hx => by
    simp at hx; subst hx
    constructor
    · intro h; rw [List.takeWhile_cons, if_pos h]; simp
    · intro h; rw [List.takeWhile_cons, if_neg (by simp [h])]; rfl
  | y :: l, k + 1, hk, x, hx => by
    by_cases h : p y = true
    · rw [List.takeWhile_cons, if_pos h] at hk ⊢
      have := takeWhile_step p l k (by simpa using hk) x (by simpa using hx)
      simpa using this
    · rw [List.takeWhile_cons, if_neg h] at hk; simp at hk
theorem zerosAt_step {g : List Int} {i k : Nat} (hk : k ≤ zerosAt g i) {x : Int} (hx : g[i + k]? = some x) : (x = 0 → k + 1 ≤ zerosAt g i) ∧ (¬ x = 0 → zerosAt g i = k) := by
  have := takeWhile_step (· == 0) (g.drop i) k hk x (by rw [List.getElem?_drop]; exact hx)
  refine ⟨fun h => this.1 (by simp [h]), fun h => this.2 (by simp [h])⟩
theorem zerosAt_end {g : List Int} {i k : Nat} (hk : k ≤ zerosAt g i) (h : g.length ≤ i + k) : zerosAt g i = k := by
  have := zerosAt_le g i
  omega
theorem runP_le (g : List Int) : ∀ i, i ≤ g.length → (runP g i).1 + (runP g i).2 ≤ g.length
  | 0, _ => by simp [runP]
  | i + 1, h => by
    have := runP_le g i (by omega)
    have := zerosAt_le g i
    unfold runP
    split
    · show i + zerosAt g i ≤ _; omega
    · omega

set_option maxRecDepth 100000 in
set_option maxHeartbeats 1600000 in
theorem run_any (g : List Int) (hg : g.length = 8) (w : World) :
    Calls Tryd.prog 25 #[.agg ((g.map (Value.int .u64)).toArray)] w fun e w' => e = .returned (.tuple #[.int .i64 (if (runP g 8).2 < 2 then 0 else ((runP g 8).1 : Int)), .int .i64 (if (runP g 8).2 < 2 then 0 else ((runP g 8).2 : Int))]) ∧ Below w.heap.size w w' := by
  match g, hg with
  | [g0, g1, g2, g3, g4, g5, g6, g7], _ =>
  obtain ⟨g, hG⟩ : ∃ g, g = [g0, g1, g2, g3, g4, g5, g6, g7] := ⟨_, rfl⟩
  rw [← hG]
  have HL : Hid (g.length = 8) := by rw [hG]; exact rfl
  have HC : Hid (∀ j x, g[j]? = some x → (w.alloc (Obj.cells #[.int .u64 g0, .int .u64 g1, .int .u64 g2, .int .u64 g3, .int .u64 g4, .int .u64 g5, .int .u64 g6, .int .u64 g7] 57)).cell? ⟨w.heap.size, j, none⟩ = some (.int .u64 x)) := by
    intro j x hj
    rw [hG] at hj
    match j, hj with
    | 0, hj => simp at hj; subst hj; simp [World.cell?_alloc_new]
    | 1, hj => simp at hj; subst hj; simp [World.cell?_alloc_new]
    | 2, hj => simp at hj; subst hj; simp [World.cell?_alloc_new]
    | 3, hj => simp at hj; subst hj; simp [World.cell?_alloc_new]
    | 4, hj => simp at hj; subst hj; simp [World.cell?_alloc_new]
    | 5, hj => simp at hj; subst hj; simp [World.cell?_alloc_new]
    | 6, hj => simp at hj; subst hj; simp [World.cell?_alloc_new]
    | 7, hj => simp at hj; subst hj; simp [World.cell?_alloc_new]
    | _ + 8, hj => simp at hj
  have HG := Lib.hid hG
  have HBE : Hid (Below w.heap.size w (w.alloc (Obj.cells #[.int .u64 g0, .int .u64 g1, .int .u64 g2, .int .u64 g3, .int .u64 g4, .int .u64 g5, .int .u64 g6, .int .u64 g7] 57))) := (Below.refl _ _).alloc (Nat.le_refl _) _
  rw [hG]
  simp only [List.map_cons, List.map_nil]
  rw [← hG]
  clear hG
  obtain ⟨rF, hrF⟩ : ∃ rF : Int, (if (runP g 8).2 < 2 then 0 else ((runP g 8).1 : Int)) = rF := ⟨_, rfl⟩
  obtain ⟨rM, hrM⟩ : ∃ rM : Int, (if (runP g 8).2 < 2 then 0 else ((runP g 8).2 : Int)) = rM := ⟨_, rfl⟩
  rw [hrF, hrM]
  have HrF := Lib.hid hrF
  have HrM := Lib.hid hrM
  clear hrF hrM
  go_enter Tryd.func25, Tryd.ntmps25
  go_wp2
  obtain ⟨wo, hwo⟩ : ∃ wo, wo = w.alloc (Obj.cells #[.int .u64 g0, .int .u64 g1, .int .u64 g2, .int .u64 g3, .int .u64 g4, .int .u64 g5, .int .u64 g6, .int .u64 g7] 57) := ⟨_, rfl⟩
  rw [← hwo]
  rw [← hwo] at HC HBE
  clear hwo
  go_loopw [6, 4, 5] (fun i f m wr => ∃ k : Nat, k ≤ 8 ∧ i = .int .i64 k ∧ f = .int .i64 (runP g k).1 ∧ m = .int .i64 (runP g k).2 ∧ wr = wo) (fun i _ _ _ => 8 - (RowKit.intOf i).toNat)
  case atStart => exact ⟨0, by omega, rfl, rfl, rfl, rfl⟩
  case round =>
    obtain ⟨k, hk, rfl, hf, hm, rfl⟩ := hrel
    have HRL := Lib.hid (runP_le g k (by rw [HL.out]; omega))
    have HST : Hid (runP g (k + 1) = if (runP g k).2 < zerosAt g k then (k, zerosAt g k) else runP g k) := Lib.hid rfl
    obtain ⟨FM, hFM⟩ : ∃ FM, runP g k = FM := ⟨_, rfl⟩
    rw [hFM] at HST HRL hf hm
    have HFM := Lib.hid hFM
    obtain ⟨F, M⟩ := FM
    simp only at hf hm HRL HST
    subst hf hm
    have hml : F + M ≤ 8 := by have := HRL.out; rwa [HL.out] at this
    clear hFM
    by_cases hlt : k < 8
    · have hzl : zerosAt g k ≤ 8 - k := by have := zerosAt_le g k; rwa [HL.out] at this
      obtain ⟨Z, hZ⟩ : ∃ Z, zerosAt g k = Z := ⟨_, rfl⟩
      have HZ := Lib.hid hZ
      rw [hZ] at HST hzl
      clear hZ
      have dk : decide ((k : Int) < 8) = true := by simp; omega
      go_wp2
      go_loopw [7] (fun i wr2 => ∃ j : Nat, j ≤ Z ∧ i = .int .i64 j ∧ wr2 = wr) (fun i _ => 8 - (RowKit.intOf i).toNat)
      case atStart => exact ⟨0, by omega, rfl, rfl⟩
      case round =>
        obtain ⟨j, hj, rfl, rfl⟩ := hrel
        have wkj : IntKind.i64.wrap ((k : Int) + (j : Int)) = ((k + j : Nat) : Int) := by rw [IntWalk.i64_in _ (by omega)]; omega
        by_cases hin : k + j < 8 ∧ g[k + j]? = some 0
        · obtain ⟨hin, hx⟩ := hin
          have hj1 := (zerosAt_step (by rw [HZ.out]; exact hj) hx).1 rfl
          rw [HZ.out] at hj1
          have hcx := HC.out (k + j) 0 hx
          have d1 : decide (((k + j : Nat) : Int) < 8) = true := by simp; omega
          have n0 : (0 : Int) ≤ ((k + j : Nat) : Int) := by omega
          have n1 : ((k + j : Nat) : Int) < 8 := by omega
          have n2 : ((k + j : Nat) : Int).toNat = k + j := by omega
          clear hx
          go_wp2
          go_roundw
          case rel => exact ⟨j + 1, hj1, by go_num, by first | rfl | trivial⟩
          case measure => simp [RowKit.intOf]; omega
        · have HZJ : Hid (Z = j) := by
            show _ = _
            rw [← HZ.out]
            by_cases h8 : k + j < 8
            · obtain ⟨x, hx⟩ : ∃ x, g[k + j]? = some x := ⟨_, List.getElem?_eq_getElem (by rw [HL.out]; omega)⟩
              refine (zerosAt_step (by rw [HZ.out]; exact hj) hx).2 fun h0 => hin ⟨h8, by rw [hx, h0]⟩
            · exact zerosAt_end (by rw [HZ.out]; exact hj) (by rw [HL.out]; omega)
          have HST2 : Hid (runP g (k + 1) = if M < j then (k, j) else (F, M)) := by show _ = _; rw [HST.out, HZJ.out]
          have HK : Hid (∀ F' M' : Nat, runP g (k + 1) = (F', M') → ∃ k_1 : Nat, k_1 ≤ 8 ∧ Value.int .i64 ((k : Int) + 1) = .int .i64 k_1 ∧ Value.int .i64 (F' : Int) = .int .i64 (runP g k_1).1 ∧ Value.int .i64 (M' : Int) = .int .i64 (runP g k_1).2 ∧ True) := fun F' M' h => ⟨k + 1, by omega, by go_num, by rw [h], by rw [h], trivial⟩
          have HMM : Hid (8 - (RowKit.intOf (Value.int .i64 ((k : Int) + 1))).toNat < 8 - (RowKit.intOf (Value.int .i64 (k : Int))).toNat) := by show _ < _; simp [RowKit.intOf]; omega
          clear HST HZ
          by_cases hM : M < j
          · have HST3 : Hid (runP g (k + 1) = (k, j)) := by show _ = _; rw [HST2.out, if_pos hM]
            have dM : decide ((M : Int) < (j : Int)) = true := by simpa using hM
            by_cases h8 : k + j < 8
            · obtain ⟨x, hx⟩ : ∃ x, g[k + j]? = some x := ⟨_, List.getElem?_eq_getElem (by rw [HL.out]; omega)⟩
              have dx : (x == 0) = false := by simp; exact fun h0 => hin ⟨h8, by rw [hx, h0]⟩
              have dx2 : ¬ x = 0 := by simpa using dx
              have hcx := HC.out (k + j) x hx
              have d1 : decide (((k + j : Nat) : Int) < 8) = true := by simp; omega
              have n0 : (0 : Int) ≤ ((k + j : Nat) : Int) := by omega
              have n1 : ((k + j : Nat) : Int) < 8 := by omega
              have n2 : ((k + j : Nat) : Int).toNat = k + j := by omega
              clear hx hin HZJ HST2
              go_wp2
              exact ⟨HK.out _ _ HST3.out, HMM.out⟩
            · have d1 : decide (((k + j : Nat) : Int) < 8) = false := by simp; omega
              clear hin HZJ HST2
              go_wp2
              exact ⟨HK.out _ _ HST3.out, HMM.out⟩
          · have HST3 : Hid (runP g (k + 1) = (F, M)) := by show _ = _; rw [HST2.out, if_neg hM]
            have dM : decide ((M : Int) < (j : Int)) = false := by simpa using hM
            by_cases h8 : k + j < 8
            · obtain ⟨x, hx⟩ : ∃ x, g[k + j]? = some x := ⟨_, List.getElem?_eq_getElem (by rw [HL.out]; omega)⟩
              have dx : (x == 0) = false := by simp; exact fun h0 => hin ⟨h8, by rw [hx, h0]⟩
              have dx2 : ¬ x = 0 := by simpa using dx
              have hcx := HC.out (k + j) x hx
              have d1 : decide (((k + j : Nat) : Int) < 8) = true := by simp; omega
              have n0 : (0 : Int) ≤ ((k + j : Nat) : Int) := by omega
              have n1 : ((k + j : Nat) : Int) < 8 := by omega
              have n2 : ((k + j : Nat) : Int).toNat = k + j := by omega
              clear hx hin HZJ HST2
              go_wp2
              exact ⟨HK.out _ _ HST3.out, HMM.out⟩
            · have d1 : decide (((k + j : Nat) : Int) < 8) = false := by simp; omega
              clear hin HZJ HST2
              go_wp2
              exact ⟨HK.out _ _ HST3.out, HMM.out⟩
    · obtain rfl : k = 8 := by omega
      have e1 := HrF.out
      have e2 := HrM.out
      rw [HFM.out] at e1 e2
      simp only at e1 e2
      by_cases hM : M < 2
      · have d1 : decide ((M : Int) < 2) = true := by simp; omega
        rw [if_pos hM] at e1 e2
        subst e1 e2
        clear hM
        go_wp2
        refine bodyPost_ret (v := .tuple #[.int .i64 0, .int .i64 0]) ?_ rfl ⟨rfl, HBE.out⟩
        simp [results, Tryd.results25, go_sem]
      · have d1 : decide ((M : Int) < 2) = false := by simp; omega
        rw [if_neg hM] at e1 e2
        subst e1 e2
        clear hM
        go_wp2
        refine bodyPost_ret (v := .tuple #[.int .i64 F, .int .i64 M]) ?_ rfl ⟨rfl, HBE.out⟩
        simp [results, Tryd.results25, go_sem]

end Go.Proofs.YticikknfkkmoaaaDoor

namespace Go.Proofs.YticikknfkkmoaaaDoor
open Go.ChangeShapes Go.WideShapes Go.ChangeAt Go.RowKit

def octs4 (a : AV) : List Int := (List.range 4).map fun i => (octN a i : Int)
theorem and_low8 (z : Int) (h0 : 0 ≤ z) (h1 : z < 18446744073709551616) : bits .and .u64 z 255 = z % 256 := by go_bits2
theorem num10_len (n : Nat) (h : n < 256) : (numT 10 n).length ≤ 3 := by
  have := numT_length 10 (by omega) 3 n (by omega)
  simpa using this
set_option maxRecDepth 100000 in
set_option maxHeartbeats 1600000 in
theorem of4_any {w : World} (hi lo : Int) (h2 : 0 ≤ lo ∧ lo < 18446744073709551616) (ht : Tabs w) :
    Calls Tryd.prog 10 #[.agg #[.bool false, .int .u64 hi, .int .u64 lo]] w fun e w' => e = .returned (.string ⟨(fourT (octs4 ⟨false, hi, lo⟩)).toArray⟩) ∧ Below w.heap.size w w' := by
  have CF := Lib.hid (fun (u : Nat) (hu : u < 65536) (W : World) (hb : Below w.heap.size w W) => format_any 10 u (.inl rfl) hu W (ht.below hb))
  obtain ⟨l, hl⟩ : ∃ l : List (List UInt8), l = (octs4 ⟨false, hi, lo⟩).map fun x => numT 10 x.toNat := ⟨_, rfl⟩
  have HL := Lib.hid hl
  have HLL : Hid (l.length = 4) := by rw [hl]; exact (by simp [octs4] : (List.map _ (octs4 _)).length = 4)
  clear ht hl
  have hb1 : Hid (Below w.heap.size w (w.alloc (.cells #[.bool false, .int .u64 hi, .int .u64 lo] 24))) := (Below.refl _ _).alloc (Nat.le_refl _) _
  go_enter Tryd.func10, Tryd.ntmps10
  go_wp2
  obtain ⟨wo, hwo⟩ : ∃ wo, wo = w.alloc (.cells #[.bool false, .int .u64 hi, .int .u64 lo] 24) := ⟨_, rfl⟩
  have hc2 : wo.cell? ⟨w.heap.size, 2, none⟩ = some (.int .u64 lo) := by rw [hwo]; simp [World.cell?_alloc_new]
  have hsz : Hid (wo.heap.size = w.heap.size + 1) := by rw [hwo]; exact Lib.hid (by simp)
  rw [← hwo] at hb1 ⊢
  clear hwo
  go_loopw [11, 3] (fun i v wr => ∃ (j : Nat) (v3 : Value), j ≤ 4 ∧ i = .int .i64 j ∧ v3 = v ∧ Hid (wr.ownsRow wo.heap.size 9 1 v3 j ((l.take j).map strV)) ∧ Hid (Below wo.heap.size wo wr)) (fun i _ _ => 4 - (RowKit.intOf i).toNat)
  case atStart => exact ⟨0, _, by omega, rfl, rfl, World.ownsRow_nil _ _ _ _, Below.refl _ _⟩
  case round =>
    obtain ⟨j, v3, hj, rfl, rfl, hrow, hb⟩ := hrel
    obtain ⟨wp, rfl⟩ : ∃ wp : World, wp = wr := ⟨_, rfl⟩
    have hs := hb.out.size
    have q2 := (hb.out.cell (p := ⟨w.heap.size, 2, none⟩) (by rw [hsz.out]; exact Nat.lt_succ_self _)).trans hc2
    by_cases hlt : j < 4
    · obtain ⟨s, hs'⟩ : ∃ s : Nat, s = 24 - 8 * j := ⟨_, rfl⟩
      have w8 : IntKind.i64.wrap (8 * (j : Int)) = 8 * (j : Int) := by rw [IntWalk.i64_in _ (by omega)]
      have es : (24 : Int) - 8 * (j : Int) = (s : Int) := by omega
      have ws : IntKind.i64.wrap (s : Int) = (s : Int) := by rw [IntWalk.i64_in _ (by omega)]
      have s0 : (0 : Int) ≤ (s : Int) := by omega
      have s1 : ¬ (s : Int) < 0 := by omega
      have s2 : (s : Int) < 64 := by omega
      have dk : decide ((j : Int) < 4) = true := by simp; omega
      have HB8 : Hid (bits .and .u64 (lo / 2 ^ (24 - 8 * j)) 255 = ((octN ⟨false, hi, lo⟩ j : Nat) : Int)) := by
        show _ = _
        have hp := Int.ediv_nonneg (b := 2 ^ (24 - 8 * j)) h2.1 (Int.le_of_lt (Int.pow_pos (by omega)))
        rw [and_low8 _ hp (Int.lt_of_le_of_lt (Int.ediv_le_self _ h2.1) h2.2), oct_four hi lo j h2.1]
      have hlt8 : octN ⟨false, hi, lo⟩ j < 256 := by unfold octN; exact Nat.mod_lt _ (by omega)
      have CC := Lib.hid (CF.out (octN ⟨false, hi, lo⟩ j) (by omega) wp (below_step hb1.out (by have := hsz.out; exact hb.out.mono (by omega))))
      have HTK : Hid ((l.take (j + 1)).map strV = (l.take j).map strV ++ [strV (numT 10 (octN ⟨false, hi, lo⟩ j))]) := by
        show _ = _
        have : l[j]? = some (numT 10 (octN ⟨false, hi, lo⟩ j)) := by rw [HL.out, List.getElem?_map]; unfold octs4; rw [List.getElem?_map, List.getElem?_range hlt]; simp
        rw [List.take_add_one, this, List.map_append]; rfl
      clear hlt8
      go_wp2_with fail
      rw [HB8.out]
      refine CC.out.mono ?_
      rintro e w4 ⟨rfl, hb4⟩
      have HO4 := Lib.hid (own_below hrow.out hb4)
      have HB4 := Lib.hid (below_step hb.out hb4)
      have hs4 : wo.heap.size ≤ w4.heap.size := by have := hb4.size; omega
      clear hb4 CC
      simp only
      go_wp2_with (at_builtin; go_loud (refine wpList_append_oneN (us := [strV (numT 10 (octN ⟨false, hi, lo⟩ j))]) rfl _ _ 58 rfl wo.heap.size _ 1 16 Tryd.underlying58 infoStr rfl (by decide) _ _ _ rfl rfl rfl HO4.out hs4 rfl (by intro u hu; simp at hu; subst hu; rfl) (by unfold maxLen; omega) (by omega) ?_))
      intro v5 w5 hown5 hb5 hs5 hk5
      have HO5 : Hid (w5.ownsRow wo.heap.size 9 1 v5 (j + 1) ((l.take (j + 1)).map strV)) := by
        show World.ownsRow _ _ _ _ _ _ _
        rw [HTK.out]
        simpa only [List.map_take] using hown5
      have HB5 := Lib.hid (HB4.out.trans hb5)
      clear hown5 hb5 hk5
      go_wp2
      go_roundw
      case rel => exact ⟨j + 1, _, by omega, by go_num, rfl, HO5.out, HB5.out⟩
      case measure => simp [RowKit.intOf]; omega
    · obtain rfl : j = 4 := by omega
      have hrow2 := hrow.out
      rw [List.take_of_length_le (by rw [HLL.out]; exact Nat.le_refl _)] at hrow2
      have CJ := Lib.hid (join_own (l := l) 46 (by have := HLL.out; exact hrow2) (fun x hx => by
        rw [HL.out] at hx
        obtain ⟨y, hy, rfl⟩ := List.mem_map.1 hx
        obtain ⟨i, _, rfl⟩ := List.mem_map.1 hy
        have := num10_len (octN ⟨false, hi, lo⟩ i) (by unfold octN; exact Nat.mod_lt _ (by omega))
        rw [Int.toNat_natCast]
        omega) (by rw [HLL.out]; omega))
      clear hrow2 hrow
      go_wp2_with fail
      refine CJ.out.mono ?_
      rintro e w6 ⟨rfl, hb6⟩
      have HB6 := Lib.hid (below_step hb.out hb6)
      clear hb6
      go_wp2
      go_ret
      refine ⟨?_, below_step hb1.out (by have := hsz.out; exact HB6.out.mono (by omega))⟩
      rw [HL.out]
      rfl

end Go.Proofs.YticikknfkkmoaaaDoor

namespace Go.Proofs.YticikknfkkmoaaaDoor
open Go.ChangeShapes Go.WideShapes Go.ChangeAt Go.RowKit

theorem len8 : Tryd.prog.arrayLen 57 = 8 := by kernel_rfl
theorem cut_all (b : Nat) (W : World) : (Instr.sliceAt 57 (.pointer (some ⟨b, 0, none⟩)) none none none).run Tryd.prog W = .ok (.slice (some ⟨b, 0, none⟩) 8 8) W := by
  rw [run_sliceAt_array_all W 57 ⟨b, 0, none⟩ (by simp [Program.arrayLen, Program.elem, Tryd.underlying57])]
  rw [len8]
  go_simp
theorem cut_to (b f : Nat) (hf : f ≤ 8) (W : World) : (Instr.sliceAt 57 (.pointer (some ⟨b, 0, none⟩)) none (some (.int .i64 (f : Int))) none).run Tryd.prog W = .ok (.slice (some ⟨b, 0, none⟩) f 8) W := by
  rw [run_sliceAt_array_h W 57 ⟨b, 0, none⟩ (by simp [Program.arrayLen, Program.elem, Tryd.underlying57]) .i64 (f : Int) (by omega) (by rw [len8]; omega)]
  rw [len8]
  go_simp
theorem cut_from (b f : Nat) (hf : f ≤ 8) (W : World) : (Instr.sliceAt 57 (.pointer (some ⟨b, 0, none⟩)) (some (.int .i64 (f : Int))) none none).run Tryd.prog W = .ok (.slice (some (if 8 = f then ⟨b, 0, none⟩ else (⟨b, 0, none⟩ : Addr).add f)) (8 - f) (8 - f)) W := by
  rw [run_sliceAt_array_l W 57 ⟨b, 0, none⟩ (by simp [Program.arrayLen, Program.elem, Tryd.underlying57]) .i64 (f : Int) (by omega) (by rw [len8]; omega)]
  rw [len8]
  go_simp

set_option maxRecDepth 100000 in
set_option maxHeartbeats 1600000 in
theorem of6_any {w : World} (hi lo : Int) (h1 : 0 ≤ hi ∧ hi < 18446744073709551616) (h2 : 0 ≤ lo ∧ lo < 18446744073709551616) (ht : Tabs w) :
    Calls Tryd.prog 10 #[.agg #[.bool true, .int .u64 hi, .int .u64 lo]] w fun e w' => e = .returned (.string ⟨(sixT (gps hi lo) (runP (gps hi lo) 8).1 (runP (gps hi lo) 8).2).toArray⟩) ∧ Below w.heap.size w w' := by
  have CG := Lib.hid (fun (W : World) => groups_any true hi lo W h1 h2)
  have CR := Lib.hid (fun (W : World) => run_any (gps hi lo) rfl W)
  have HLT := Lib.hid (gps_lt hi lo h1.1 h2.1)
  have HT := Lib.hid ht
  obtain ⟨g, hg⟩ : ∃ g, g = gps hi lo := ⟨_, rfl⟩
  have HG := Lib.hid hg
  have HRL := Lib.hid (runP_le g 8 (by rw [hg]; exact Nat.le_refl _))
  rw [← hg] at CG CR HLT ⊢
  obtain ⟨g0, g1, g2, g3, g4, g5, g6, g7, he⟩ : ∃ g0 g1 g2 g3 g4 g5 g6 g7, g = [g0, g1, g2, g3, g4, g5, g6, g7] := ⟨_, _, _, _, _, _, _, _, hg⟩
  have HE := Lib.hid he
  have HLN : Hid (g.length = 8) := by rw [he]; exact rfl
  have hm : (g.map (Value.int .u64)).toArray = #[.int .u64 g0, .int .u64 g1, .int .u64 g2, .int .u64 g3, .int .u64 g4, .int .u64 g5, .int .u64 g6, .int .u64 g7] := by rw [he]; rfl
  simp only [hm] at CG CR
  obtain ⟨F, M, hFM⟩ : ∃ F M, runP g 8 = (F, M) := ⟨_, _, rfl⟩
  rw [hFM] at CR HRL ⊢
  simp only at CR HRL ⊢
  rw [HLN.out] at HRL
  have hfm : F + M ≤ 8 := HRL.out
  clear hm he hFM hg ht HG HRL
  go_enter Tryd.func10, Tryd.ntmps10
  go_wp2_with fail
  refine (CG.out _).mono ?_
  rintro e w1 ⟨rfl, hb1⟩
  have HB1 := Lib.hid (below_step ((Below.refl _ _).alloc (Nat.le_refl _) _) hb1)
  have hz1 := HB1.out.size
  clear hb1 CG
  go_wp2_with fail
  refine (CR.out _).mono ?_
  rintro e w2 ⟨rfl, hb2⟩
  have hrd : Reads (w1.alloc (.cells #[.int .u64 g0, .int .u64 g1, .int .u64 g2, .int .u64 g3, .int .u64 g4, .int .u64 g5, .int .u64 g6, .int .u64 g7] 57)) (w1.alloc (.cells #[.int .u64 g0, .int .u64 g1, .int .u64 g2, .int .u64 g3, .int .u64 g4, .int .u64 g5, .int .u64 g6, .int .u64 g7] 57)).heap.size 1 (some ⟨w1.heap.size, 0, none⟩) 8 (g.map (Value.int .u64)) := by
    refine ⟨by rw [List.length_map, HLN.out], fun _ => ⟨_, rfl, by simp, fun j u hu => ?_⟩⟩
    rw [HE.out] at hu
    match j, hu with
    | 0, hu => simp at hu; subst hu; simp [World.cell?_alloc_new, Addr.add]
    | 1, hu => simp at hu; subst hu; simp [World.cell?_alloc_new, Addr.add]
    | 2, hu => simp at hu; subst hu; simp [World.cell?_alloc_new, Addr.add]
    | 3, hu => simp at hu; subst hu; simp [World.cell?_alloc_new, Addr.add]
    | 4, hu => simp at hu; subst hu; simp [World.cell?_alloc_new, Addr.add]
    | 5, hu => simp at hu; subst hu; simp [World.cell?_alloc_new, Addr.add]
    | 6, hu => simp at hu; subst hu; simp [World.cell?_alloc_new, Addr.add]
    | 7, hu => simp at hu; subst hu; simp [World.cell?_alloc_new, Addr.add]
    | _ + 8, hu => simp at hu
  have HRD := Lib.hid (hrd.below hb2)
  have HB2 : Hid (Below w.heap.size w w2) := by
    refine Lib.hid ?_
    have h3 : Below w.heap.size w (w1.alloc (.cells #[.int .u64 g0, .int .u64 g1, .int .u64 g2, .int .u64 g3, .int .u64 g4, .int .u64 g5, .int .u64 g6, .int .u64 g7] 57)) := HB1.out.alloc hz1 _
    exact below_step h3 hb2
  have hz2 : w1.heap.size + 1 ≤ w2.heap.size := by have := hb2.size; simpa using this
  have CH : Hid (∀ (A : Option Addr) (n c : Nat) (k : List Int) (W : World), Below w2.heap.size w2 W → k.length = n → n ≤ 8 → (∀ x ∈ k, x ∈ g) → Reads w2 w2.heap.size 1 A n (k.map (Value.int .u64)) → Calls Tryd.prog 26 #[.slice A n c] W fun e W' => e = .returned (.string ⟨(hexT k).toArray⟩) ∧ Below W.heap.size W W') :=
    fun A n c k W hb hk hn hin hr => hex_any hk hn (fun x hx => HLT.out x (hin x hx)) ((hr.below hb).more hb.size) (HT.out.below (below_step HB2.out hb))
  have HRD2 : Hid (Reads w2 w2.heap.size 1 (some ⟨w1.heap.size, 0, none⟩) 8 (g.map (Value.int .u64))) := by
    refine Lib.hid ?_
    have := HRD.out
    exact this.more (by simpa using hz2)
  clear hrd hb2 CR HRD
  by_cases hM : M < 2
  · have CH1 := Lib.hid (CH.out (some ⟨w1.heap.size, 0, none⟩) 8 8 g w2 (Below.refl _ _) HLN.out (by omega) (fun _ h => h) HRD2.out)
    have hsl := cut_all w1.heap.size
    rw [if_pos hM, if_pos hM]
    clear CH HRD2
    go_wp2_with fail
    refine CH1.out.mono ?_
    rintro e w3 ⟨rfl, hb3⟩
    have HB3 := Lib.hid (below_step HB2.out hb3)
    clear hb3
    go_wp2
    go_ret
    refine ⟨?_, HB3.out⟩
    unfold sixT
    rw [if_pos hM]
    rfl
  · have hsl1 := cut_to w1.heap.size F (by omega)
    have hsl2 := cut_from w1.heap.size (F + M) hfm
    obtain ⟨A2, hA2⟩ : ∃ A2, (if 8 = F + M then (⟨w1.heap.size, 0, none⟩ : Addr) else (⟨w1.heap.size, 0, none⟩ : Addr).add (F + M)) = A2 := ⟨_, rfl⟩
    rw [hA2] at hsl2
    have hr1 : Reads w2 w2.heap.size 1 (some ⟨w1.heap.size, 0, none⟩) F ((g.take F).map (Value.int .u64)) := by
      have := HRD2.out
      refine ⟨by rw [List.length_map, List.length_take, HLN.out]; omega, fun hn => ?_⟩
      obtain ⟨ad, e, hb, hc⟩ := this.2 (by omega)
      refine ⟨ad, e, hb, fun j u hu => hc j u ?_⟩
      rw [List.map_take] at hu
      by_cases hj : j < F
      · rwa [List.getElem?_take_of_lt hj] at hu
      · rw [List.getElem?_take_eq_none (by omega)] at hu; cases hu
    have hr2 : Reads w2 w2.heap.size 1 (some A2) (8 - (F + M)) ((g.drop (F + M)).map (Value.int .u64)) := by
      have := HRD2.out.cut (k := F + M) (cap := 8) hfm (Nat.le_refl _)
      rw [List.map_drop]
      rw [Nat.mul_one] at this
      rw [← hA2]
      by_cases h8 : 8 = F + M
      · rw [if_pos h8] at this ⊢
        exact this
      · rw [if_neg h8] at this ⊢
        exact this
    have CH1 := Lib.hid (fun W hb => CH.out (some ⟨w1.heap.size, 0, none⟩) F 8 (g.take F) W hb (by rw [List.length_take, HLN.out]; omega) (by omega) (fun _ h => List.mem_of_mem_take h) hr1)
    have CH2 := Lib.hid (fun W hb => CH.out (some A2) (8 - (F + M)) (8 - (F + M)) (g.drop (F + M)) W hb (by rw [List.length_drop, HLN.out]) (by omega) (fun _ h => List.mem_of_mem_drop h) hr2)
    have HLA : Hid ((hexT (g.take F)).length ≤ 80) := by
      refine Lib.hid (Nat.le_trans (joinT_len 58 4 _ (fun x hx => ?_)) ?_)
      · obtain ⟨y, hy, rfl⟩ := List.mem_map.1 hx
        have h := HLT.out y (List.mem_of_mem_take hy)
        exact num16_len _ (by omega)
      · rw [List.length_map, List.length_take, HLN.out]; omega
    have HLB : Hid ((hexT (g.drop (F + M))).length ≤ 80) := by
      refine Lib.hid (Nat.le_trans (joinT_len 58 4 _ (fun x hx => ?_)) ?_)
      · obtain ⟨y, hy, rfl⟩ := List.mem_map.1 hx
        have h := HLT.out y (List.mem_of_mem_drop hy)
        exact num16_len _ (by omega)
      · rw [List.length_map, List.length_drop, HLN.out]; omega
    have HSX : Hid (sixT g F M = hexT (g.take F) ++ [58, 58] ++ hexT (g.drop (F + M))) := by refine Lib.hid ?_; unfold sixT; rw [if_neg hM]
    obtain ⟨ta, hta⟩ : ∃ ta, hexT (g.take F) = ta := ⟨_, rfl⟩
    obtain ⟨tb, htb⟩ : ∃ tb, hexT (g.drop (F + M)) = tb := ⟨_, rfl⟩
    rw [hta] at CH1 HLA HSX
    rw [htb] at CH2 HLB HSX
    have m0 : ((M : Int) == 0) = false := by simp; omega
    have wfm : IntKind.i64.wrap ((F : Int) + (M : Int)) = ((F + M : Nat) : Int) := by rw [IntWalk.i64_in _ (by omega)]; omega
    have hla := HLA.out
    have hlb := HLB.out
    rw [show ((F + M : Nat) : Int) = (F : Int) + (M : Int) from Int.natCast_add _ _] at wfm
    simp only [Int.natCast_add] at hsl2
    rw [if_neg hM, if_neg hM]
    obtain ⟨tc, htc⟩ : ∃ tc, ta ++ [58, 58] = tc := ⟨_, rfl⟩
    have htl : tc.length ≤ 82 := by rw [← htc, List.length_append]; simp only [List.length_cons, List.length_nil]; omega
    have hs1 : ∀ W : World, (Op.stringOp .add ⟨ta.toArray⟩ ⟨#[58, 58]⟩).run Tryd.prog W = .ok (.string ⟨tc.toArray⟩) W := fun W => by
      have := run_string_add_lists (P := Tryd.prog) W ta [58, 58] (by omega) (by simp)
      rw [htc] at this
      exact this
    have hs2 : ∀ W : World, (Op.stringOp .add ⟨tc.toArray⟩ ⟨tb.toArray⟩).run Tryd.prog W = .ok (.string ⟨(tc ++ tb).toArray⟩) W := fun W => run_string_add_lists (P := Tryd.prog) W tc tb (by omega) (by omega)
    have HTC := Lib.hid htc
    obtain ⟨td, htd⟩ : ∃ td, tc ++ tb = td := ⟨_, rfl⟩
    rw [htd] at hs2
    have HTD := Lib.hid htd
    clear CH HRD2 hr1 hr2 hta htb hA2 hM HLA HLB htc htd hla hlb htl
    go_wp2_with fail
    go_region_held3 (fun w' => (∀ b o, b < w2.heap.size → w'.cell? ⟨b, o, none⟩ = w2.cell? ⟨b, o, none⟩) ∧ w2.heap.size ≤ w'.heap.size ∧ Hid (Below w2.heap.size w2 w'))
      ((first | assumption | exact keep0 _ | exact keep1 (by assumption) (by assumption) | exact keepD (by assumption) | exact keepB (by assumption) (by assumption) | exact keepA (by assumption) _ | exact ⟨fun _ _ _ => rfl, Nat.le_refl _, Below.refl _ _⟩))
      (first | (go_at_call 26; (with_reducible refine (CH1.out _ ?hb1).mono ?_); (case hb1 => exact keepBelow (by assumption)); rintro e w5 ⟨rfl, hb5⟩; obtain ⟨fc5, ff5⟩ := bcell hb5; have hz5 := hb5.size) | (go_at_call 26; (with_reducible refine (CH2.out _ ?hb1).mono ?_); (case hb1 => exact keepBelow (by assumption)); rintro e w6 ⟨rfl, hb6⟩; obtain ⟨fc6, ff6⟩ := bcell hb6; have hz6 := hb6.size))
    all_goals go_wp2
    all_goals go_ret
    all_goals (refine ⟨?_, below_step HB2.out (keepBelow (by assumption))⟩; rw [HSX.out, HTC.out, HTD.out]; rfl)

end Go.Proofs.YticikknfkkmoaaaDoor

namespace Go.Proofs.YticikknfkkmoaaaDoor

/-- The text of the first i parts, where those from f on, b in number, are left out (f = 8: none are). -/
def partT (l : List (List UInt8)) (f b i : Nat) : List UInt8 := if i ≤ f then joinT 58 (l.take i) else joinT 58 (l.take f) ++ [58, 58] ++ joinT 58 ((l.drop (f + b)).take (i - (f + b)))
theorem partT_zero (l : List (List UInt8)) (f b : Nat) : partT l f b 0 = [] := by unfold partT; rw [if_pos (Nat.zero_le _)]; rfl
theorem partT_at (l : List (List UInt8)) (f b : Nat) (hb : 1 ≤ b) : partT l f b (f + b) = partT l f b f ++ [58, 58] := by
  unfold partT
  rw [if_neg (by omega), if_pos (Nat.le_refl _), Nat.sub_self]
  simp [joinT]
theorem partT_step {l : List (List UInt8)} {f b i : Nat} {x : List UInt8} (hx : l[i]? = some x) (h : i < f ∨ f + b ≤ i) (hb : 1 ≤ b) :
    partT l f b (i + 1) = (if 0 < i ∧ ¬ i = f + b then partT l f b i ++ [58] ++ x else partT l f b i ++ x) := by
  unfold partT
  have hil : i < l.length := (List.getElem?_eq_some_iff.1 hx).1
  rcases h with h | h
  · rw [if_pos (show i + 1 ≤ f by omega), if_pos (show i ≤ f by omega), List.take_add_one, hx]
    by_cases h0 : i = 0
    · subst h0
      rw [if_neg (by omega)]
      simp [joinT]
    · rw [if_pos ⟨by omega, by omega⟩]
      exact joinT_snoc 58 _ x (fun e => by
        have := congrArg List.length e
        rw [List.length_take, List.length_nil] at this
        omega)
  · rw [if_neg (show ¬ i + 1 ≤ f by omega), if_neg (show ¬ i ≤ f by omega), show i + 1 - (f + b) = (i - (f + b)) + 1 by omega, List.take_add_one, List.getElem?_drop, show f + b + (i - (f + b)) = i by omega, hx]
    by_cases h0 : i = f + b
    · subst h0
      rw [if_neg (by omega), Nat.sub_self]
      simp [joinT]
    · rw [if_pos ⟨by omega, h0⟩]
      rw [show (some x).toList = [x] from rfl, joinT_snoc 58 _ x (fun e => by
        have := congrArg List.length e
        rw [List.length_take, List.length_drop, List.length_nil] at this
        omega)]
      simp
theorem partT_len (l : List (List UInt8)) (f b i : Nat) (h : ∀ x ∈ l, x.length ≤ 4) (hl : l.length = 8) : (partT l f b i).length ≤ 100 := by
  have key : ∀ m : List (List UInt8), (∀ x ∈ m, x ∈ l) → m.length ≤ 8 → (joinT 58 m).length ≤ 40 := by
    intro m hm hn
    have h1 : ∀ m : List (List UInt8), (∀ x ∈ m, x.length ≤ 4) → (joinT 58 m).length ≤ 5 * m.length := by
      intro m
      induction m with
      | nil => simp [joinT]
      | cons x m ih =>
        intro hx
        cases m with
        | nil => have := hx x (by simp); simp [joinT]; omega
        | cons y m =>
          have h1 := hx x (by simp)
          have h2 := ih (fun z hz => hx z (by simp at hz ⊢; right; exact hz))
          show (x ++ [58] ++ joinT 58 (y :: m)).length ≤ _
          rw [List.length_append, List.length_append]
          simp only [List.length_cons, List.length_nil] at h2 ⊢
          omega
    have := h1 m (fun x hx => h x (hm x hx))
    omega
  unfold partT
  split
  · have := key (l.take i) (fun x hx => List.mem_of_mem_take hx) (by rw [List.length_take]; omega)
    omega
  · have h1 := key (l.take f) (fun x hx => List.mem_of_mem_take hx) (by rw [List.length_take]; omega)
    have h2 := key ((l.drop (f + b)).take (i - (f + b))) (fun x hx => List.mem_of_mem_drop (List.mem_of_mem_take hx)) (by rw [List.length_take, List.length_drop]; omega)
    simp only [List.length_append, List.length_cons, List.length_nil]
    omega
theorem runR_le (g : List Int) : ∀ i, i ≤ g.length → -1 ≤ (runR g i).1 ∧ 1 ≤ (runR g i).2 ∧ (runR g i).1 + (runR g i).2 ≤ max 0 g.length ∧ (0 ≤ (runR g i).1 → 2 ≤ (runR g i).2) ∧ ((runR g i).1 < 0 → (runR g i).2 = 1)
  | 0, _ => by simp [runR]
  | i + 1, h => by
    have := runR_le g i (by omega)
    have := zerosAt_le g i
    unfold runR
    split
    · refine ⟨?_, ?_, ?_, ?_, ?_⟩ <;> simp only <;> omega
    · omega
/-- What both compute is one text. -/
theorem text_same (g : List Int) (hg : g.length = 8) : sixT g (runP g 8).1 (runP g 8).2 = partT (g.map fun x => numT 16 x.toNat) (if (runR g 8).1 < 0 then 8 else (runR g 8).1.toNat) (runR g 8).2 8 := by
  obtain ⟨h0, h1, h2⟩ := runs_same g 8
  have hle := runP_le g 8 (by omega)
  unfold sixT
  by_cases hm : (runP g 8).2 < 2
  · rw [if_pos hm, h2 hm]
    unfold partT
    simp only
    rw [if_pos (by decide)]
    unfold hexT
    rw [List.take_of_length_le (by rw [List.length_map, hg]; exact Nat.le_refl _)]
  · rw [if_neg hm, h1 (by omega)]
    unfold partT
    simp only
    rw [if_neg (show ¬ (((runP g 8).1 : Nat) : Int) < 0 by omega), Int.toNat_natCast, if_neg (by omega)]
    unfold hexT
    rw [List.map_take, List.map_drop, List.take_of_length_le (l := ((g.map fun x => numT 16 x.toNat).drop _)) (by rw [List.length_drop, List.length_map, hg]; exact Nat.le_refl _)]

end Go.Proofs.YticikknfkkmoaaaDoor

namespace Go.Proofs.YticikknfkkmoaaaDoor
open Go.ChangeShapes Go.WideShapes Go.ChangeAt Go.RowKit

def hexS : ByteArray := ⟨#[48, 49, 50, 51, 52, 53, 54, 55, 56, 57, 97, 98, 99, 100, 101, 102]⟩
theorem hex_dig : ∀ d : Fin 16, (hexS.extract d.1 16).extract 0 1 = ⟨#[digB d.1]⟩ := by decide +kernel
theorem hex_size : ∀ d : Fin 16, 1 ≤ (hexS.extract d.1 16).size := by decide +kernel
theorem dig_cut1 (d : Nat) (hd : d < 16) (W : World) : (Instr.sliceAt 9 (.string hexS) (some (.int .i64 (d : Int))) none none).run Tryd.prog W = .ok (.string (hexS.extract d 16)) W := by
  rw [run_sliceAt_string (h := Tryd.underlying9), run_slice_string_l W _ _ Tryd.underlying9 .i64 (d : Int) (by omega) (by show (d : Int) ≤ ((hexS.size : Nat) : Int); have : hexS.size = 16 := rfl; omega)]
  rfl
theorem dig_cut2 (d : Nat) (hd : d < 16) (W : World) : (Instr.sliceAt 9 (.string (hexS.extract d 16)) none (some (.int .i64 1)) none).run Tryd.prog W = .ok (.string ⟨#[digB d]⟩) W := by
  rw [run_sliceAt_string (h := Tryd.underlying9), run_slice_string_h W _ _ Tryd.underlying9 .i64 1 (by omega) (by have := hex_size ⟨d, hd⟩; simp only at this; omega)]
  have := hex_dig ⟨d, hd⟩
  simp only at this
  rw [show (1 : Int).toNat = 1 from rfl, this]


set_option maxRecDepth 100000 in
set_option maxHeartbeats 1600000 in
theorem numText_any (base : Nat) (hb : base = 10 ∨ base = 16) : ∀ (n : Nat) (_ : n < 65536) (w : World),
    Calls Tryd.prog 29 #[.int .i64 n, .int .i64 base] w fun e w' => e = .returned (.string ⟨(numT base n).toArray⟩) ∧ Below w.heap.size w w' := by
  intro n
  induction n using Nat.strongRecOn with
  | _ n ih =>
  intro hn w
  have hb2 : 2 ≤ base ∧ base ≤ 16 := by omega
  have hml := Nat.mod_lt n (y := base) (by omega)
  have hmod : Int.tmod (n : Int) (base : Int) = ((n % base : Nat) : Int) := by rw [Int.tmod_eq_emod_of_nonneg (by omega)]; exact (Int.natCast_emod n base).symm
  have hdiv : Int.tdiv (n : Int) (base : Int) = ((n / base : Nat) : Int) := by rw [Int.tdiv_eq_ediv_of_nonneg (by omega)]; exact (Int.natCast_ediv n base).symm
  obtain ⟨d, hd⟩ : ∃ d, n % base = d := ⟨_, rfl⟩
  obtain ⟨q, hq⟩ : ∃ q, n / base = q := ⟨_, rfl⟩
  rw [hd] at hmod hml
  rw [hq] at hdiv
  have hc1 := dig_cut1 d (by omega)
  have hc2 := dig_cut2 d (by omega)
  unfold hexS at hc1 hc2
  obtain ⟨T1, hT1⟩ : ∃ T1 : ByteArray, (ByteArray.mk #[48, 49, 50, 51, 52, 53, 54, 55, 56, 57, 97, 98, 99, 100, 101, 102]).extract d 16 = T1 := ⟨_, rfl⟩
  rw [hT1] at hc1 hc2
  have wd : IntKind.i64.wrap (d : Int) = (d : Int) := by rw [IntWalk.i64_in _ (by omega)]
  have b0 : ((base : Int) == 0) = false := by simp; omega
  have b1 : ¬ (base : Int) = 0 := by omega
  by_cases hlt : n < base
  · have dl : decide (n < base) = true := by simpa using hlt
    have HR : Hid (numT base n = [digB d]) := by refine Lib.hid ?_; rw [numT_small hlt, ← hd, Nat.mod_eq_of_lt hlt]
    clear ih hd hq hT1 hdiv hb
    go_enter Tryd.func29, Tryd.ntmps29
    go_wp2_with fail
    go_ret
    exact ⟨by rw [HR.out]; rfl, Below.refl _ _⟩
  · have dl : decide (n < base) = false := by simpa using hlt
    have hql : q < n := by rw [← hq]; exact Nat.div_lt_self (by omega) (by omega)
    have wq : IntKind.i64.wrap (q : Int) = (q : Int) := by rw [IntWalk.i64_in _ (by omega)]
    have HR : Hid (numT base n = numT base q ++ [digB d]) := by refine Lib.hid ?_; rw [numT_step hlt hb2.1, hq, hd]
    have HLQ : Hid ((numT base q).length ≤ 16) := by
      refine Lib.hid (Nat.le_trans (numT_length base hb2.1 16 q (Nat.lt_of_lt_of_le (by omega : q < 2 ^ 16) (Nat.pow_le_pow_left hb2.1 16))) (by decide))
    have CI := Lib.hid (ih q hql (by omega))
    obtain ⟨tq, htq⟩ : ∃ tq, numT base q = tq := ⟨_, rfl⟩
    rw [htq] at HR HLQ CI
    have hla := HLQ.out
    clear ih hd hq hT1 hb htq HLQ
    go_enter Tryd.func29, Tryd.ntmps29
    go_wp2_with fail
    refine (CI.out _).mono ?_
    rintro e w1 ⟨rfl, hb1⟩
    go_wp2
    go_ret
    exact ⟨by rw [HR.out]; simp [ByteArray.mk_append_mk], hb1⟩

end Go.Proofs.YticikknfkkmoaaaDoor

namespace Go.Proofs.YticikknfkkmoaaaDoor
open Go.ChangeShapes Go.WideShapes Go.ChangeAt Go.RowKit

theorem infoInt2 : (Tryd.prog.info? 3).map (fun i => (i.zero, i.size, i.bytes)) = some (some (.int .i64 0), 1, 8) := by kernel_rfl
def PartsOut (a : AV) (wd : Nat) (w : World) (e : Ending) (w' : World) : Prop :=
  ∃ v, e = .returned v ∧ w'.ownsRow w.heap.size 3 1 v (groups a.v (widN a.six) wd (widN a.six)).length ((groups a.v (widN a.six) wd (widN a.six)).map (Value.int .i64)) ∧ Below w.heap.size w w'

set_option maxRecDepth 100000 in
set_option maxHeartbeats 1600000 in
theorem partsOf_any (six : Bool) (hi lo : Int) (wd : Nat) (w : World) (ha : (⟨six, hi, lo⟩ : AV).Ok) (hw : 0 < wd) (hw2 : wd ≤ 16) :
    Calls Tryd.prog 28 #[.agg #[.bool six, .int .u64 hi, .int .u64 lo], .int .i64 wd] w (PartsOut ⟨six, hi, lo⟩ wd w) := by
  have CB := Lib.hid (fun (W : World) => bitsOf_any six hi lo W ha.rhi ha.rlo)
  have HBIT := Lib.hid (fun (i : Nat) (hi' : i < widN six) => AV.bitN ha (i := i) hi')
  obtain ⟨V, hV⟩ : ∃ V, (⟨six, hi, lo⟩ : AV).v = V := ⟨_, rfl⟩
  simp only at HBIT
  rw [hV] at HBIT
  obtain ⟨post, hpost⟩ : ∃ post, PartsOut ⟨six, hi, lo⟩ wd w = post := ⟨_, rfl⟩
  have HP := Lib.hid hpost
  rw [hpost]
  have HV := Lib.hid hV
  obtain ⟨N, hN⟩ : ∃ N, widN six = N := ⟨_, rfl⟩
  have hN2 : N ≤ 128 := by rw [← hN]; cases six <;> simp [widN]
  have HNN := Lib.hid hN
  rw [hN] at HBIT
  have HBL : Hid ((bitsL six hi lo).length = N) := by show _ = _; rw [bitsL_length, widN_eq, hN]; simp
  have HBG : Hid (∀ i, i < N → (bitsL six hi lo)[i]? = some (bitI six hi lo (i : Int))) := by
    intro i hi'
    unfold bitsL
    rw [List.getElem?_map, List.getElem?_range (by rw [widN_eq, hN]; simpa using hi')]
    rfl
  clear hpost hV ha hN
  go_enter Tryd.func28, Tryd.ntmps28
  go_wp2_with fail
  refine (CB.out _).mono ?_
  rintro e X ⟨vb, rfl, hbits, hbX, hlX⟩
  obtain ⟨Ab, cb, rfl, hcb, hrb⟩ := own_reads hbits
  rw [widN_eq, HNN.out] at hrb hcb ⊢
  simp only [Int.toNat_natCast] at hrb hcb ⊢
  have HRB := Lib.hid hrb
  have HBX : Hid (Below w.heap.size w X) := below_step ((Below.refl _ _).alloc (Nat.le_refl _) _) hbX
  have hwX := HBX.out.size
  have hS1 : ((wd : Int) == 0) = false := by simp; omega
  have hS2 : ¬ (wd : Int) = 0 := by omega
  clear hbits hrb hbX CB
  go_wp2
  go_loopw [11, 5] (fun i s5 wr => ∃ (k : Nat) (v5 : Value), k ≤ N ∧ i = .int .i64 k ∧ v5 = s5 ∧ wr.ownsRow X.heap.size 3 1 v5 (groups V N wd k).length ((groups V N wd k).map (Value.int .i64)) ∧ Below X.heap.size X wr) (fun i _ _ => N - (intOf i).toNat)
  case atStart => exact ⟨0, _, by omega, rfl, rfl, by rw [show groups V N wd 0 = [] from List.eq_nil_of_length_eq_zero (by rw [groups_length]; exact Nat.div_eq_of_lt (by omega))]; exact World.ownsRow_nil _ _ _ _, Below.refl _ _⟩
  case round =>
    obtain ⟨k, v5, hk, rfl, rfl, hrow, hb⟩ := hrel
    obtain ⟨wo, rfl⟩ : ∃ wo : World, wo = wr := ⟨_, rfl⟩
    have hszb := hb.size
    have HB := Lib.hid hb
    by_cases hlt : k < N
    · obtain ⟨ab, x, rfl, hx, -, hxl, -⟩ := HRB.out.at1 hlt
      have hbl : ab.block < X.heap.size := by
        obtain ⟨ad', e1, hb', _⟩ := HRB.out.2 (by omega)
        injection e1 with e1
        rw [e1]; exact hb'
      have q0 := (hb.cell (p := ab.add k) (by rw [block_of_add]; exact hbl)).trans hx
      have hxv : x = ((V / 2 ^ (N - 1 - k) % 2 : Nat) : Int) := by
        rw [HBG.out k hlt] at hxl
        injection hxl with hxl
        rw [← hxl, HBIT.out k hlt]
      have hst := groups_step V N wd k hw hlt
      rw [← hxv] at hst
      have hx01 : 0 ≤ x ∧ x ≤ 1 := by rw [hxv]; omega
      have hmod : Int.tmod (k : Int) (wd : Int) = ((k % wd : Nat) : Int) := by rw [Int.tmod_eq_emod_of_nonneg (by omega)]; exact (Int.natCast_emod k wd).symm
      have hml := Nat.mod_lt k hw
      have hwm : IntKind.i64.wrap (((k % wd : Nat) : Int)) = ((k % wd : Nat) : Int) := by rw [IntWalk.i64_in _ (by omega)]
      obtain ⟨r, hr⟩ : ∃ r, k % wd = r := ⟨_, rfl⟩
      rw [hr] at hst hmod hwm hml
      have hdm := Nat.div_add_mod k wd
      have hgl := groups_length V N wd k
      obtain ⟨q, hq⟩ : ∃ q, k / wd = q := ⟨_, rfl⟩
      rw [hq] at hst hdm
      rw [hr] at hdm
      have hqk : q ≤ k := by rw [← hq]; exact Nat.div_le_self _ _
      obtain ⟨G, hG⟩ : ∃ G, groups V N wd k = G := ⟨_, rfl⟩
      rw [hG] at hst hrow hgl
      by_cases h0 : r = 0
      · rw [if_pos h0] at hst
        have hlen : G.length = q := by
          rw [hgl, show k + wd - 1 = (wd - 1) + wd * q by omega, Nat.add_mul_div_left _ _ hw, Nat.div_eq_of_lt (by omega)]
          omega
        subst h0
        rw [hlen] at hrow
        have HO := Lib.hid hrow
        have HST := Lib.hid hst
        have HLE := Lib.hid hlen
        clear hb hx hxl hxv hst hgl hlen hdm hr hq hG hrow hml
        go_wp2_with (at_builtin; go_loud (refine wpList_append_oneN (us := [.int .i64 0]) rfl _ _ 36 rfl X.heap.size _ 1 8 Tryd.underlying36 infoInt2 rfl (by decide) _ _ _ rfl rfl rfl HO.out ?c1 rfl ?c4 ?c2 ?c3 ?_))
        case c1 => exact hszb
        case c2 => unfold maxLen; omega
        case c3 => omega
        case c4 => first | rfl | (intro u hu; simp at hu; subst hu; rfl)
        intro v' w9 hown' hb9 hs9 hk9
        have ho9 : w9.ownsRow X.heap.size 3 1 v' (q + 1) ((G ++ [0]).map (Value.int .i64)) := by rw [List.map_append]; exact hown'
        obtain ⟨ad, c9, rfl, hbase, hadl, hcl⟩ := own_at ho9 (by omega)
        have hx0 := hcl q (by omega)
        rw [List.getElem?_append_right (by rw [HLE.out]; exact Nat.le_refl _), HLE.out, Nat.sub_self] at hx0
        simp only [List.getElem?_cons_zero, Option.getD_some] at hx0
        have hfz := own_frozen ho9 q
        have HOS := Lib.hid (own_set ho9 q (.int .i64 x) (by omega))
        have HB9 := Lib.hid (HB.out.trans hb9)
        have HADB := Lib.hid hbase
        have i1 : (0 : Int) ≤ (q : Int) := by omega
        have i2 : (q : Int) < (q : Int) + 1 := by omega
        have e1 : ((q : Int) + 1 - 1) = q := by omega
        clear hown' hb9 hk9 ho9 hcl
        go_wp2
        go_roundw
        case rel =>
          refine ⟨k + 1, _, by omega, by go_num, rfl, ?_, HB9.out.setCell (by rw [block_of_add]; exact HADB.out) _⟩
          have e2 : ((G ++ [0]).map (Value.int .i64)).set q (.int .i64 x) = (G ++ [x]).map (Value.int .i64) := by
            rw [List.map_append, List.map_append, List.set_append_right _ _ (by rw [List.length_map, HLE.out]; exact Nat.le_refl _), List.length_map, HLE.out, Nat.sub_self]
            rfl
          have := HOS.out
          rw [e2] at this
          rw [HST.out, List.length_append, HLE.out]
          exact this
        case measure => simp [intOf]; omega
      · rw [if_neg h0] at hst
        have hlen : G.length = q + 1 := by
          rw [hgl, show k + wd - 1 = (r - 1) + wd * (q + 1) by rw [Nat.mul_succ]; omega, Nat.add_mul_div_left _ _ hw, Nat.div_eq_of_lt (by omega)]
          omega
        obtain ⟨y, hy⟩ : ∃ y, G[q]?.getD 0 = y := ⟨_, rfl⟩
        have hy2 : 0 ≤ y ∧ y < 65536 := by
          rw [← hy, ← hG, groups_get V N wd k q (by rw [← hgl, hlen]; omega)]
          have h1 := gv_lt V N wd k q
          have h2 : 2 ^ wd ≤ 2 ^ 16 := Nat.pow_le_pow_right (by omega) hw2
          simp only [Option.getD_some]
          omega
        rw [hy] at hst
        rw [hlen] at hrow
        have d0 : ((r : Int) == 0) = false := by simp; omega
        obtain ⟨ad, c9, rfl, hbase, hadl, hcl⟩ := own_at hrow (by omega)
        have hx0 := hcl q (by omega)
        rw [hy] at hx0
        have hfz := own_frozen hrow q
        have w1 : IntKind.i64.wrap (2 * y) = 2 * y := by rw [IntWalk.i64_in _ (by omega)]
        have w2 : IntKind.i64.wrap (2 * y + x) = 2 * y + x := by rw [IntWalk.i64_in _ (by omega)]
        have HOS := Lib.hid (own_set hrow q (.int .i64 (2 * y + x)) (by omega))
        have HADB := Lib.hid hbase
        have HST := Lib.hid hst
        have HLE := Lib.hid hlen
        have i1 : (0 : Int) ≤ (q : Int) := by omega
        have i2 : (q : Int) < (q : Int) + 1 := by omega
        have e1 : ((q : Int) + 1 - 1) = q := by omega
        clear hb hx hxl hxv hst hgl hlen hdm hr hq hG hrow hml h0 hy hcl
        go_wp2
        go_roundw
        case rel =>
          refine ⟨k + 1, _, by omega, by go_num, rfl, ?_, HB.out.setCell (by rw [block_of_add]; exact HADB.out) _⟩
          rw [HST.out, List.length_set, HLE.out, List.map_set]
          exact HOS.out
        case measure => simp [intOf]; omega
    · obtain rfl : k = N := by omega
      have HO := Lib.hid hrow
      clear hrow hb
      go_wp2
      (try go_ret)
      rw [← HP.out]
      unfold PartsOut
      rw [HV.out, show widN (⟨six, hi, lo⟩ : AV).six = k from HNN.out]
      exact ⟨_, rfl, own_mono HO.out hwX, HBX.out.trans (HB.out.mono hwX)⟩

end Go.Proofs.YticikknfkkmoaaaDoor

namespace Go.Proofs.YticikknfkkmoaaaDoor
open Go.ChangeShapes Go.WideShapes Go.ChangeAt Go.RowKit

theorem groups4_eq (hi lo : Int) : groups (⟨false, hi, lo⟩ : AV).v 32 8 32 = octs4 ⟨false, hi, lo⟩ := by
  unfold groups octs4
  rw [show (32 + 8 - 1) / 8 = 4 by decide]
  refine List.map_congr_left fun j hj => ?_
  have := gv_oct (⟨false, hi, lo⟩ : AV) j (by simp at hj; simp [widN]; omega)
  simp only [widN, Bool.false_eq_true, if_false] at this
  rw [this]
theorem joinT_step {s : UInt8} {l : List (List UInt8)} {i : Nat} {x : List UInt8} (hx : l[i]? = some x) : joinT s (l.take (i + 1)) = (if 0 < i then joinT s (l.take i) ++ [s] ++ x else joinT s (l.take i) ++ x) := by
  have hil : i < l.length := (List.getElem?_eq_some_iff.1 hx).1
  rw [List.take_add_one, hx]
  by_cases h0 : i = 0
  · subst h0
    rw [if_neg (by omega)]
    simp [joinT]
  · rw [if_pos (by omega)]
    exact joinT_snoc s _ x (fun e => by
      have := congrArg List.length e
      rw [List.length_take, List.length_nil] at this
      omega)
theorem joinT_le (s : UInt8) (k : Nat) (l : List (List UInt8)) (h : ∀ x ∈ l, x.length ≤ k) (i : Nat) : (joinT s (l.take i)).length ≤ (k + 1) * l.length := by
  refine Nat.le_trans (joinT_len s k _ fun x hx => h x (List.mem_of_mem_take hx)) (Nat.mul_le_mul_left _ ?_)
  rw [List.length_take]; omega
theorem octs4_lt (a : AV) : ∀ x ∈ octs4 a, 0 ≤ x ∧ x < 256 := by
  intro x hx
  obtain ⟨i, _, rfl⟩ := List.mem_map.1 hx
  have : octN a i < 256 := by unfold octN; exact Nat.mod_lt _ (by omega)
  omega

set_option maxRecDepth 100000 in
set_option maxHeartbeats 1600000 in
theorem refTxt4_any (hi lo : Int) (w : World) (ha : (⟨false, hi, lo⟩ : AV).Ok) :
    Calls Tryd.prog 13 #[.agg #[.bool false, .int .u64 hi, .int .u64 lo]] w fun e w' => e = .returned (.tuple #[.string ⟨(fourT (octs4 ⟨false, hi, lo⟩)).toArray⟩, .int .i64 0]) ∧ Below w.heap.size w w' := by
  have CM := Lib.hid (fun (W : World) => refMay_any false hi lo W ha.rlo.1)
  have CP := Lib.hid (fun (W : World) => partsOf_any false hi lo 8 W ha (by omega) (by omega))
  have CN := Lib.hid (fun (n : Nat) (hn : n < 65536) (W : World) => numText_any 10 (.inl rfl) n hn W)
  have hmay : mayB false hi lo = true := ha.may
  rw [hmay] at CM
  obtain ⟨g, hg⟩ : ∃ g, g = octs4 ⟨false, hi, lo⟩ := ⟨_, rfl⟩
  have HLT : Hid (∀ x ∈ g, 0 ≤ x ∧ x < 256) := by rw [hg]; exact octs4_lt _
  have HLN : Hid (g.length = 4) := by rw [hg]; exact Lib.hid (by simp [octs4])
  unfold PartsOut at CP
  simp only [show widN false = 32 from rfl, groups4_eq] at CP
  rw [← hg] at CP ⊢
  rw [HLN.out] at CP
  obtain ⟨l, hl⟩ : ∃ l : List (List UInt8), l = g.map fun x => numT 10 x.toNat := ⟨_, rfl⟩
  have HFT : Hid (fourT g = joinT 46 l) := by rw [hl]; exact Lib.hid rfl
  have HLL : Hid (l.length = 4) := by rw [hl]; refine Lib.hid ?_; rw [List.length_map]; exact HLN.out
  have HLB : Hid (∀ x ∈ l, x.length ≤ 3) := by
    refine Lib.hid fun x hx => ?_
    rw [hl] at hx
    obtain ⟨y, hy, rfl⟩ := List.mem_map.1 hx
    have := HLT.out y hy
    exact num10_len _ (by omega)
  have HLX := Lib.hid hl
  clear hl hg ha hmay
  go_enter Tryd.func13, Tryd.ntmps13
  go_wp2_with fail
  refine (CM.out _).mono ?_
  rintro e w1 ⟨rfl, hb1⟩
  obtain ⟨fc1, ff1⟩ := bcell hb1
  have s1 := bsize1 hb1
  have HB1 := Lib.hid (balloc1 hb1)
  clear hb1
  go_wp2_with fail
  refine (CP.out _).mono ?_
  rintro e w2 ⟨vb, rfl, hown, hb2⟩
  have s2 := hb2.size
  have HB2 := Lib.hid (below_step HB1.out hb2)
  obtain ⟨Ab, cb, rfl, hcb, hrb⟩ := own_reads hown
  have HRB := Lib.hid hrb
  clear hown hrb hb2 CP CM fc1 ff1
  go_wp2
  go_loopw [22, 4] (fun i s wr => ∃ k : Nat, k ≤ 4 ∧ i = .int .i64 k ∧ s = .string ⟨(joinT 46 (l.take k)).toArray⟩ ∧ Hid (Below w2.heap.size w2 wr)) (fun i _ _ => 4 - (RowKit.intOf i).toNat)
  case atStart => exact ⟨0, by omega, rfl, rfl, Below.refl _ _⟩
  case round =>
    obtain ⟨k, hk, rfl, rfl, hb⟩ := hrel
    obtain ⟨wo, rfl⟩ : ∃ wo : World, wo = wr := ⟨_, rfl⟩
    have hs := hb.out.size
    by_cases hlt : k < 4
    · obtain ⟨ab, x, rfl, hx, -, hxl, hm⟩ := HRB.out.at1 hlt
      have hbl : ab.block < w2.heap.size := by
        obtain ⟨ad', e1, hb', _⟩ := HRB.out.2 (by omega)
        injection e1 with e1
        rw [e1]; exact hb'
      have q0 := (hb.out.cell (p := ab.add k) (by rw [block_of_add]; exact hbl)).trans hx
      have hxr := HLT.out x hm
      obtain ⟨u, rfl⟩ : ∃ u : Nat, x = u := ⟨x.toNat, by omega⟩
      have hlk : l[k]? = some (numT 10 u) := by rw [HLX.out, List.getElem?_map, hxl]; simp
      have HST := Lib.hid (joinT_step (s := 46) hlk)
      have hla : (joinT 46 (l.take k)).length ≤ 16 := by have := joinT_le 46 3 l HLB.out k; rw [HLL.out] at this; omega
      have hlb : (numT 10 u).length ≤ 3 := HLB.out _ (List.mem_of_getElem? hlk)
      have CC := Lib.hid (fun W => CN.out u (by omega) W)
      obtain ⟨ta, hta⟩ : ∃ ta, joinT 46 (l.take k) = ta := ⟨_, rfl⟩
      obtain ⟨tb, htb⟩ : ∃ tb, numT 10 u = tb := ⟨_, rfl⟩
      rw [hta, htb] at HST
      rw [hta] at hla ⊢
      rw [htb] at hlb CC
      clear hx hlk hm hxl hta htb
      by_cases h0 : k = 0
      · rw [if_neg (by omega)] at HST
        have d0 : decide (0 < k) = false := by simp; omega
        have d1 : ¬ 0 < k := by omega
        clear h0
        go_wp2_with fail
        refine (CC.out _).mono ?_
        rintro e w4 ⟨rfl, hb4⟩
        have HB4 := Lib.hid (below_step hb.out hb4)
        clear hb4 CC
        go_wp2
        go_roundw
        case rel => exact ⟨k + 1, by omega, by go_num, by rw [HST.out]; simp [ByteArray.mk_append_mk], HB4.out⟩
        case measure => simp [RowKit.intOf]; omega
      · rw [if_pos (by omega)] at HST
        have d0 : decide (0 < k) = true := by simp; omega
        have d1 : 0 < k := by omega
        go_wp2_with fail
        refine (CC.out _).mono ?_
        rintro e w4 ⟨rfl, hb4⟩
        have HB4 := Lib.hid (below_step hb.out hb4)
        clear hb4 CC
        go_wp2
        go_roundw
        case rel => exact ⟨k + 1, by omega, by go_num, by rw [HST.out]; simp [ByteArray.mk_append_mk], HB4.out⟩
        case measure => simp [RowKit.intOf]; omega
    · obtain rfl : k = 4 := by omega
      have HFX : Hid (joinT 46 (l.take 4) = fourT g) := by
        refine Lib.hid ?_
        rw [HFT.out, List.take_of_length_le (by rw [HLL.out]; exact Nat.le_refl _)]
      rw [HFX.out]
      go_wp2
      refine bodyPost_ret (v := .tuple #[.string ⟨(fourT g).toArray⟩, .int .i64 0]) ?_ rfl ⟨rfl, HB2.out.trans (hb.out.mono (Nat.le_trans (Nat.le_of_lt s1) s2))⟩
      simp [results, Tryd.results13, go_sem]

end Go.Proofs.YticikknfkkmoaaaDoor

namespace Go.Proofs.YticikknfkkmoaaaDoor
open Go.ChangeShapes Go.WideShapes Go.ChangeAt Go.RowKit

set_option maxRecDepth 100000 in
set_option maxHeartbeats 1600000 in
theorem refTxt6_any (hi lo : Int) (w : World) (ha : (⟨true, hi, lo⟩ : AV).Ok) :
    Calls Tryd.prog 13 #[.agg #[.bool true, .int .u64 hi, .int .u64 lo]] w fun e w' => e = .returned (.tuple #[.string ⟨(sixT (gps hi lo) (runP (gps hi lo) 8).1 (runP (gps hi lo) 8).2).toArray⟩, .int .i64 0]) ∧ Below w.heap.size w w' := by
  have CM := Lib.hid (fun (W : World) => refMay_any true hi lo W ha.rlo.1)
  have CP := Lib.hid (fun (W : World) => partsOf_any true hi lo 16 W ha (by omega) (by omega))
  have CN := Lib.hid (fun (n : Nat) (hn : n < 65536) (W : World) => numText_any 16 (.inr rfl) n hn W)
  have hmay : mayB true hi lo = true := ha.may
  rw [hmay] at CM
  obtain ⟨g, hg⟩ : ∃ g, g = gps hi lo := ⟨_, rfl⟩
  have HLT : Hid (∀ x ∈ g, 0 ≤ x ∧ x < 65536) := by rw [hg]; exact gps_lt hi lo ha.rhi.1 ha.rlo.1
  have HLN : Hid (g.length = 8) := by rw [hg]; exact Lib.hid rfl
  unfold PartsOut at CP
  simp only [show widN true = 128 from rfl, ← gps_eq hi lo ha.rhi ha.rlo] at CP
  rw [← hg] at CP ⊢
  have HTS := Lib.hid (text_same g HLN.out)
  rw [HLN.out] at CP
  obtain ⟨l, hl⟩ : ∃ l : List (List UInt8), l = g.map fun x => numT 16 x.toNat := ⟨_, rfl⟩
  rw [← hl] at HTS
  have HLL : Hid (l.length = 8) := by rw [hl]; refine Lib.hid ?_; rw [List.length_map]; exact HLN.out
  have HLB : Hid (∀ x ∈ l, x.length ≤ 4) := by
    refine Lib.hid fun x hx => ?_
    rw [hl] at hx
    obtain ⟨y, hy, rfl⟩ := List.mem_map.1 hx
    have := HLT.out y hy
    exact num16_len _ (by omega)
  have HLX := Lib.hid hl
  obtain ⟨ft, hft⟩ : ∃ ft, sixT g (runP g 8).1 (runP g 8).2 = ft := ⟨_, rfl⟩
  rw [hft] at HTS ⊢
  clear hl hg ha hmay hft
  go_enter Tryd.func13, Tryd.ntmps13
  go_wp2_with fail
  refine (CM.out _).mono ?_
  rintro e w1 ⟨rfl, hb1⟩
  obtain ⟨fc1, ff1⟩ := bcell hb1
  have s1 := bsize1 hb1
  have HB1 := Lib.hid (balloc1 hb1)
  clear hb1
  go_wp2_with fail
  refine (CP.out _).mono ?_
  rintro e w2 ⟨vb, rfl, hown, hb2⟩
  have s2 := hb2.size
  have HB2 := Lib.hid (below_step HB1.out hb2)
  obtain ⟨Ab, cb, rfl, hcb, hrb⟩ := own_reads hown
  obtain ⟨ab, hAb, -, hcl⟩ := hrb.2 (by omega)
  subst hAb
  have HC : Hid (∀ j x, g[j]? = some x → w2.cell? (ab.add j) = some (.int .i64 x)) := by
    refine Lib.hid fun j x hj => hcl j _ ?_
    rw [List.getElem?_map, hj]; rfl
  have habl : ab.block < w2.heap.size := by
    obtain ⟨ad', e1, hb', _⟩ := hrb.2 (by omega)
    injection e1 with e1
    rw [e1]; exact hb'
  have HABL := Lib.hid habl
  clear hown hrb hb2 CP CM fc1 ff1 hcl habl
  go_wp2
  go_loopw [41, 8, 9] (fun i f m wr => ∃ k : Nat, k ≤ 8 ∧ i = .int .i64 k ∧ f = .int .i64 (runR g k).1 ∧ m = .int .i64 (runR g k).2 ∧ wr = w2) (fun i _ _ _ => 8 - (RowKit.intOf i).toNat)
  case atStart => exact ⟨0, by omega, rfl, rfl, rfl, rfl⟩
  case round =>
    obtain ⟨k, hk, rfl, hf, hm, rfl⟩ := hrel
    have HRL := Lib.hid (runR_le g k (by rw [HLN.out]; omega))
    have HST : Hid (runR g (k + 1) = if (runR g k).2 < zerosAt g k then ((k : Int), zerosAt g k) else runR g k) := Lib.hid rfl
    obtain ⟨FM, hFM⟩ : ∃ FM, runR g k = FM := ⟨_, rfl⟩
    rw [hFM] at HST HRL hf hm
    have HFM := Lib.hid hFM
    obtain ⟨F, M⟩ := FM
    simp only at hf hm HRL HST
    rw [HLN.out] at HRL
    subst hf hm
    clear hFM
    by_cases hlt : k < 8
    · have hzl : zerosAt g k ≤ 8 - k := by have := zerosAt_le g k; rwa [HLN.out] at this
      obtain ⟨Z, hZ⟩ : ∃ Z, zerosAt g k = Z := ⟨_, rfl⟩
      have HZ := Lib.hid hZ
      rw [hZ] at HST hzl
      clear hZ
      have dk : decide ((k : Int) < 8) = true := by simp; omega
      go_wp2
      go_loopw [11] (fun i wr2 => ∃ j : Nat, j ≤ Z ∧ i = .int .i64 j ∧ wr2 = wr) (fun i _ => 8 - (RowKit.intOf i).toNat)
      case atStart => exact ⟨0, by omega, rfl, rfl⟩
      case round =>
        obtain ⟨j, hj, rfl, rfl⟩ := hrel
        have wkj : IntKind.i64.wrap ((k : Int) + (j : Int)) = ((k + j : Nat) : Int) := by rw [IntWalk.i64_in _ (by omega)]; omega
        by_cases hin : k + j < 8 ∧ g[k + j]? = some 0
        · obtain ⟨hin, hx⟩ := hin
          have hj1 := (zerosAt_step (by rw [HZ.out]; exact hj) hx).1 rfl
          rw [HZ.out] at hj1
          have hcx := HC.out (k + j) 0 hx
          have d1 : decide (((k + j : Nat) : Int) < 8) = true := by simp; omega
          have n0 : (0 : Int) ≤ ((k + j : Nat) : Int) := by omega
          have n1 : ((k + j : Nat) : Int) < 8 := by omega
          have n2 : ((k + j : Nat) : Int).toNat = k + j := by omega
          clear hx
          go_wp2
          go_roundw
          case rel => exact ⟨j + 1, hj1, by go_num, by first | rfl | trivial⟩
          case measure => simp [RowKit.intOf]; omega
        · have HZJ : Hid (Z = j) := by
            show _ = _
            rw [← HZ.out]
            by_cases h8 : k + j < 8
            · obtain ⟨x, hx⟩ : ∃ x, g[k + j]? = some x := ⟨_, List.getElem?_eq_getElem (by rw [HLN.out]; omega)⟩
              refine (zerosAt_step (by rw [HZ.out]; exact hj) hx).2 fun h0 => hin ⟨h8, by rw [hx, h0]⟩
            · exact zerosAt_end (by rw [HZ.out]; exact hj) (by rw [HLN.out]; omega)
          have HST2 : Hid (runR g (k + 1) = if M < j then ((k : Int), j) else (F, M)) := by show _ = _; rw [HST.out, HZJ.out]
          have HK : Hid (∀ (F' : Int) (M' : Nat), runR g (k + 1) = (F', M') → ∃ k_1 : Nat, k_1 ≤ 8 ∧ Value.int .i64 ((k : Int) + 1) = .int .i64 k_1 ∧ Value.int .i64 F' = .int .i64 (runR g k_1).1 ∧ Value.int .i64 (M' : Int) = .int .i64 (runR g k_1).2 ∧ True) := fun F' M' h => ⟨k + 1, by omega, by go_num, by rw [h], by rw [h], trivial⟩
          have HMM : Hid (8 - (RowKit.intOf (Value.int .i64 ((k : Int) + 1))).toNat < 8 - (RowKit.intOf (Value.int .i64 (k : Int))).toNat) := by show _ < _; simp [RowKit.intOf]; omega
          clear HST HZ
          by_cases hM : M < j
          · have HST3 : Hid (runR g (k + 1) = ((k : Int), j)) := by show _ = _; rw [HST2.out, if_pos hM]
            have dM : decide (M < j) = true := by simpa using hM
            by_cases h8 : k + j < 8
            · obtain ⟨x, hx⟩ : ∃ x, g[k + j]? = some x := ⟨_, List.getElem?_eq_getElem (by rw [HLN.out]; omega)⟩
              have dx : (x == 0) = false := by simp; exact fun h0 => hin ⟨h8, by rw [hx, h0]⟩
              have dx2 : ¬ x = 0 := by simpa using dx
              have hcx := HC.out (k + j) x hx
              have d1 : decide (((k + j : Nat) : Int) < 8) = true := by simp; omega
              have n0 : (0 : Int) ≤ ((k + j : Nat) : Int) := by omega
              have n1 : ((k + j : Nat) : Int) < 8 := by omega
              have n2 : ((k + j : Nat) : Int).toNat = k + j := by omega
              clear hx hin HZJ HST2
              go_wp2
              exact ⟨HK.out _ _ HST3.out, HMM.out⟩
            · have d1 : decide (((k + j : Nat) : Int) < 8) = false := by simp; omega
              clear hin HZJ HST2
              go_wp2
              exact ⟨HK.out _ _ HST3.out, HMM.out⟩
          · have HST3 : Hid (runR g (k + 1) = (F, M)) := by show _ = _; rw [HST2.out, if_neg hM]
            have dM : decide (M < j) = false := by simpa using hM
            by_cases h8 : k + j < 8
            · obtain ⟨x, hx⟩ : ∃ x, g[k + j]? = some x := ⟨_, List.getElem?_eq_getElem (by rw [HLN.out]; omega)⟩
              have dx : (x == 0) = false := by simp; exact fun h0 => hin ⟨h8, by rw [hx, h0]⟩
              have dx2 : ¬ x = 0 := by simpa using dx
              have hcx := HC.out (k + j) x hx
              have d1 : decide (((k + j : Nat) : Int) < 8) = true := by simp; omega
              have n0 : (0 : Int) ≤ ((k + j : Nat) : Int) := by omega
              have n1 : ((k + j : Nat) : Int) < 8 := by omega
              have n2 : ((k + j : Nat) : Int).toNat = k + j := by omega
              clear hx hin HZJ HST2
              go_wp2
              exact ⟨HK.out _ _ HST3.out, HMM.out⟩
            · have d1 : decide (((k + j : Nat) : Int) < 8) = false := by simp; omega
              clear hin HZJ HST2
              go_wp2
              exact ⟨HK.out _ _ HST3.out, HMM.out⟩
    · obtain rfl : k = 8 := by omega
      rw [HFM.out] at HTS
      have hRL := HRL.out
      simp only at HTS
      obtain ⟨F2, hF2⟩ : ∃ F2 : Nat, (if F < 0 then 8 else F.toNat) = F2 := ⟨_, rfl⟩
      rw [hF2] at HTS
      have hF2b : (-1 ≤ F ∧ F ≤ 8 ∧ M ≤ 9) ∧ (F < 0 → F2 = 8 ∧ M = 1) ∧ (0 ≤ F → (F2 : Int) = F ∧ 2 ≤ M ∧ F2 + M ≤ 8) := by
        rw [← hF2]
        obtain ⟨q1, q2, q3, q4, q5⟩ := hRL
        refine ⟨by omega, ?_, ?_⟩
        · intro h; rw [if_pos h]; exact ⟨rfl, q5 h⟩
        · intro h; rw [if_neg (by omega)]; have := q4 h; omega
      have HF2 := Lib.hid hF2b
      clear hF2 hRL HRL HFM HST hF2b
      rw [show ((8 : Nat) : Int) = 8 from rfl]
      go_wp2
      obtain ⟨W2, rfl⟩ : ∃ W2 : World, W2 = wr := ⟨_, rfl⟩
      go_loopw [12, 4] (fun i s wr => ∃ k : Nat, k ≤ 8 ∧ i = .int .i64 k ∧ s = .string ⟨(partT l F2 M k).toArray⟩ ∧ Hid (k ≤ F2 ∨ F2 + M ≤ k) ∧ Hid (Below W2.heap.size W2 wr)) (fun i _ _ => 8 - (RowKit.intOf i).toNat)
      case atStart => exact ⟨0, by omega, rfl, by rw [partT_zero], .inl (Nat.zero_le _), Below.refl _ _⟩
      case round =>
        obtain ⟨k, hk, rfl, rfl, hv, hb⟩ := hrel
        obtain ⟨wo, rfl⟩ : ∃ wo : World, wo = wr := ⟨_, rfl⟩
        have hs := hb.out.size
        have hF2b := HF2.out
        have hvv := hv.out
        by_cases hlt : k < 8
        · have dk : decide ((k : Int) < 8) = true := by simp; omega
          have hla : (partT l F2 M k).length ≤ 100 := partT_len l F2 M k HLB.out HLL.out
          have wfm : IntKind.i64.wrap (F + (M : Int)) = F + (M : Int) := by rw [IntWalk.i64_in _ (by omega)]
          by_cases hkF : (k : Int) = F
          · have hk2 : F2 = k := by omega
            subst hkF
            have HST := Lib.hid (partT_at l F2 M (by omega))
            rw [hk2] at HST hla ⊢
            have HV : Hid (k + M ≤ k ∨ k + M ≤ k + M) := Lib.hid (.inr (Nat.le_refl _))
            have w1' : IntKind.i64.wrap ((M : Int) - 1) = (M : Int) - 1 := by rw [IntWalk.i64_in _ (by omega)]
            have w2' : IntKind.i64.wrap ((k : Int) + ((M : Int) - 1)) = (k : Int) + ((M : Int) - 1) := by rw [IntWalk.i64_in _ (by omega)]
            have w3' : IntKind.i64.wrap ((k : Int) + ((M : Int) - 1) + 1) = (k : Int) + ((M : Int) - 1) + 1 := by rw [IntWalk.i64_in _ (by omega)]
            have hkm : k + M ≤ 8 ∧ 2 ≤ M := by omega
            obtain ⟨ta, hta⟩ : ∃ ta, partT l k M k = ta := ⟨_, rfl⟩
            rw [hta] at HST
            rw [hta] at hla ⊢
            clear hF2b hvv hta
            go_wp2
            go_roundw
            case rel => exact ⟨k + M, by omega, by congr 1; omega, by rw [HST.out]; simp [ByteArray.mk_append_mk], HV, hb.out⟩
            case measure => simp [RowKit.intOf]; omega
          · obtain ⟨x, hx⟩ : ∃ x, g[k]? = some x := ⟨_, List.getElem?_eq_getElem (by rw [HLN.out]; omega)⟩
            have hxr := HLT.out x (List.mem_of_getElem? hx)
            obtain ⟨u, rfl⟩ : ∃ u : Nat, x = u := ⟨x.toNat, by omega⟩
            have q0 := (hb.out.cell (p := ab.add k) (by rw [block_of_add]; exact HABL.out)).trans (HC.out k _ hx)
            have hlk : l[k]? = some (numT 16 u) := by rw [HLX.out, List.getElem?_map, hx]; simp
            have hpos : k < F2 ∨ F2 + M ≤ k := by omega
            have HST := Lib.hid (partT_step hlk hpos (by omega))
            have HV : Hid (k + 1 ≤ F2 ∨ F2 + M ≤ k + 1) := Lib.hid (by omega)
            have hlb : (numT 16 u).length ≤ 4 := HLB.out _ (List.mem_of_getElem? hlk)
            have CC := Lib.hid (fun W => CN.out u (by omega) W)
            obtain ⟨ta, hta⟩ : ∃ ta, partT l F2 M k = ta := ⟨_, rfl⟩
            obtain ⟨tb, htb⟩ : ∃ tb, numT 16 u = tb := ⟨_, rfl⟩
            rw [hta, htb] at HST
            rw [hta] at hla ⊢
            rw [htb] at hlb CC
            have d1 : ((k : Int) == F) = false := by simpa using hkF
            clear hx hlk hta htb hvv
            by_cases h0 : 0 < k
            · by_cases hFM' : k = F2 + M
              · skip
                rw [if_neg (by omega)] at HST
                have d2 : decide (0 < k) = true := by simpa using h0
                have wfk : IntKind.i64.wrap (F + (M : Int)) = (k : Int) := by rw [wfm]; omega
                clear wfm
                have d5 : decide (F < 0) = false := by simp; omega
                have d6 : ¬ F < 0 := by omega
                clear hFM' hF2b
                go_wp2_with fail
                refine (CC.out _).mono ?_
                rintro e w4 ⟨rfl, hb4⟩
                have HB4 := Lib.hid (below_step hb.out hb4)
                clear hb4 CC
                go_wp2
                go_roundw
                case rel => exact ⟨k + 1, by omega, by go_num, by rw [HST.out]; simp [ByteArray.mk_append_mk], HV.out, HB4.out⟩
                case measure => simp [RowKit.intOf]; omega
              · skip
                have hc : 0 < k ∧ ¬ k = F2 + M := ⟨h0, hFM'⟩
                rw [if_pos hc] at HST
                have d2 : decide (0 < k) = true := by simpa using h0
                have d3 : ((k : Int) == F + (M : Int)) = false := by simp; omega
                have d4 : ¬ (k : Int) = F + (M : Int) := by omega
                clear hc hFM' hF2b
                go_wp2_with fail
                refine (CC.out _).mono ?_
                rintro e w4 ⟨rfl, hb4⟩
                have HB4 := Lib.hid (below_step hb.out hb4)
                clear hb4 CC
                go_wp2
                go_roundw
                case rel => exact ⟨k + 1, by omega, by go_num, by rw [HST.out]; simp [ByteArray.mk_append_mk], HV.out, HB4.out⟩
                case measure => simp [RowKit.intOf]; omega
            · skip
              rw [if_neg (by omega)] at HST
              have d2 : decide (0 < k) = false := by simpa using h0
              have d2' : ¬ 0 < k := h0
              clear hF2b
              go_wp2_with fail
              refine (CC.out _).mono ?_
              rintro e w4 ⟨rfl, hb4⟩
              have HB4 := Lib.hid (below_step hb.out hb4)
              clear hb4 CC
              go_wp2
              go_roundw
              case rel => exact ⟨k + 1, by omega, by go_num, by rw [HST.out]; simp [ByteArray.mk_append_mk], HV.out, HB4.out⟩
              case measure => simp [RowKit.intOf]; omega
        · obtain rfl : k = 8 := by omega
          rw [← HTS.out]
          go_wp2
          refine bodyPost_ret (v := .tuple #[.string ⟨ft.toArray⟩, .int .i64 0]) ?_ rfl ⟨rfl, HB2.out.trans (hb.out.mono (Nat.le_trans (Nat.le_of_lt s1) s2))⟩
          simp [results, Tryd.results13, go_sem]

end Go.Proofs.YticikknfkkmoaaaDoor

namespace Go.Proofs.YticikknfkkmoaaaDoor
open Go.ChangeShapes Go.WideShapes Go.ChangeAt Go.RowKit

def addrTxt (six : Bool) (hi lo : Int) : List UInt8 := if six then sixT (gps hi lo) (runP (gps hi lo) 8).1 (runP (gps hi lo) 8).2 else fourT (octs4 ⟨false, hi, lo⟩)
def txtL (six : Bool) (hi lo : Int) : List UInt8 := if mayB six hi lo then addrTxt six hi lo else []
def txtE (six : Bool) (hi lo : Int) : Int := if mayB six hi lo then 0 else 4
/-- A text, and a code. -/
def RetTxt (w : World) (l : List UInt8) (E : Int) (e : Ending) (w' : World) : Prop := e = .returned (.tuple #[.string ⟨l.toArray⟩, .int .i64 E]) ∧ Below w.heap.size w w'

set_option maxRecDepth 100000 in
set_option maxHeartbeats 800000 in
theorem refText_any {w : World} (six : Bool) (hi lo : Int) (h1 : 0 ≤ hi ∧ hi < 18446744073709551616) (h2 : 0 ≤ lo ∧ lo < 18446744073709551616) :
    Calls Tryd.prog 13 #[.agg #[.bool six, .int .u64 hi, .int .u64 lo]] w (RetTxt w (txtL six hi lo) (txtE six hi lo)) := by
  by_cases hm : mayB six hi lo = true
  · unfold txtL txtE addrTxt
    rw [if_pos hm, if_pos hm]
    cases six
    · exact refTxt4_any hi lo w ⟨h1, h2, hm⟩
    · exact refTxt6_any hi lo w ⟨h1, h2, hm⟩
  · have hm2 : mayB six hi lo = false := by simpa using hm
    have CM := Lib.hid (fun (W : World) => refMay_any six hi lo W h2.1)
    rw [hm2] at CM
    obtain ⟨post, hpost⟩ : ∃ post, RetTxt w (txtL six hi lo) (txtE six hi lo) = post := ⟨_, rfl⟩
    rw [hpost]
    unfold txtL txtE at hpost
    rw [hm2] at hpost
    have HP := Lib.hid hpost
    clear hpost hm hm2
    go_enter Tryd.func13, Tryd.ntmps13
    go_wp2_with fail
    refine (CM.out _).mono ?_
    rintro e w1 ⟨rfl, hb1⟩
    have HB1 := Lib.hid (balloc1 hb1)
    clear hb1
    go_wp2
    rw [← HP.out]
    exact ⟨rfl, HB1.out⟩

end Go.Proofs.YticikknfkkmoaaaDoor

namespace Go.Proofs.YticikknfkkmoaaaDoor

def foldB (b : Nat) (l : List Nat) : Nat := l.foldl (fun a n => a * b + n) 0
def fourA (l : List Nat) : AV := ⟨false, 0, (foldB 256 l : Int)⟩
def sixA (g : List Nat) : AV := ⟨true, (foldB 65536 (g.take 4) : Int), (foldB 65536 (g.drop 4) : Int)⟩
/-- What is read of a text. -/
def readP (s : List UInt8) : Option AV :=
  if 58 ∉ s then (match numsO 10 46 s with
    | some l => if l.length = 4 then some (fourA l) else none
    | none => none)
  else match numsO 16 58 (Lib.cut s [58, 58]).1, numsO 16 58 (Lib.cut s [58, 58]).2.1 with
    | some l, some r => if 8 < l.length + r.length ∨ ((Lib.cut s [58, 58]).2.2 = false ∧ ¬ l.length = 8) then none else some (sixA (l ++ List.replicate (8 - l.length - r.length) 0 ++ r))
    | _, _ => none

theorem lenE4 {α : Type} : ∀ {l : List α}, l.length = 4 → ∃ a b c d, l = [a, b, c, d]
  | [a, b, c, d], _ => ⟨a, b, c, d, rfl⟩
theorem lenE8 {α : Type} : ∀ {l : List α}, l.length = 8 → ∃ a b c d e f g h, l = [a, b, c, d, e, f, g, h]
  | [a, b, c, d, e, f, g, h], _ => ⟨a, b, c, d, e, f, g, h, rfl⟩
theorem fourA_ok {l : List Nat} (hl : l.length = 4) (h : ∀ n ∈ l, n ≤ 255) : (fourA l).Ok := by
  obtain ⟨a, b, c, d, rfl⟩ := lenE4 hl
  have h1 := h a (by simp)
  have h2 := h b (by simp)
  have h3 := h c (by simp)
  have h4 := h d (by simp)
  unfold fourA foldB
  simp only [List.foldl]
  refine ⟨⟨by simp, by simp⟩, ⟨by simp only; omega, by simp only; omega⟩, ?_⟩
  unfold mayB
  simp
  omega
theorem sixA_ok {l : List Nat} (hl : l.length = 8) (h : ∀ n ∈ l, n ≤ 65535) : (sixA l).Ok := by
  obtain ⟨a, b, c, d, e, f, g, k, rfl⟩ := lenE8 hl
  have h1 := h a (by simp)
  have h2 := h b (by simp)
  have h3 := h c (by simp)
  have h4 := h d (by simp)
  have h5 := h e (by simp)
  have h6 := h f (by simp)
  have h7 := h g (by simp)
  have h8 := h k (by simp)
  unfold sixA foldB
  simp only [List.take_succ_cons, List.take_zero, List.drop_succ_cons, List.drop_zero, List.foldl]
  exact ⟨⟨by simp only; omega, by simp only; omega⟩, ⟨by simp only; omega, by simp only; omega⟩, rfl⟩
theorem readP_ok {s : List UInt8} {a : AV} (h : readP s = some a) : a.Ok := by
  unfold readP at h
  split at h
  · split at h
    · rename_i l hl
      split at h
      · rename_i h4
        obtain rfl := Option.some.inj h
        refine fourA_ok h4 ?_
        unfold numsO at hl
        split at hl
        · have := Option.some.inj hl
          subst this
          simp
        · exact (allO_le (.inl rfl) hl).2
      · cases h
    · cases h
  · split at h
    · rename_i l r hl hr
      split at h
      · cases h
      · rename_i hn
        obtain rfl := Option.some.inj h
        have key : ∀ (s : List UInt8) (l : List Nat), numsO 16 58 s = some l → ∀ n ∈ l, n ≤ 65535 := fun s l hl => by
          unfold numsO at hl
          split at hl
          · have := Option.some.inj hl
            subst this
            simp
          · exact (allO_le (.inr rfl) hl).2
        refine sixA_ok ?_ ?_
        · simp
          omega
        · intro n hnm
          simp only [List.mem_append, List.mem_replicate] at hnm
          rcases hnm with (h | h) | h
          · exact key _ _ hl n h
          · omega
          · exact key _ _ hr n h
    · cases h

theorem mem_joinT {c b : UInt8} : ∀ {xs : List (List UInt8)}, b ∈ joinT c xs → b = c ∨ ∃ x ∈ xs, b ∈ x
  | [], h => by simp [joinT] at h
  | [x], h => .inr ⟨x, by simp, h⟩
  | x :: y :: l, h => by
    simp only [joinT, List.mem_append, List.mem_singleton] at h
    rcases h with (h | h) | h
    · exact .inr ⟨x, by simp, h⟩
    · exact .inl h
    · rcases mem_joinT h with h | ⟨z, hz, h⟩
      · exact .inl h
      · exact .inr ⟨z, by simp [hz], h⟩
theorem sign_joinT {c : UInt8} {x y : List UInt8} {l : List (List UInt8)} : c ∈ joinT c (x :: y :: l) := by simp [joinT]
theorem zerosAt_zero {g : List Int} {i j : Nat} (h : j < zerosAt g i) : g[i + j]? = some 0 := by
  unfold zerosAt at h
  have hm := List.getElem_mem (l := (g.drop i).takeWhile (· == 0)) h
  have h0 := List.all_eq_true.1 List.all_takeWhile _ hm
  have hp := (List.takeWhile_prefix (l := g.drop i) (· == 0))
  have he := List.IsPrefix.getElem hp h
  have hlt : j < (g.drop i).length := Nat.lt_of_lt_of_le h hp.length_le
  have e2 : (g.drop i)[j]? = some 0 := by
    rw [List.getElem?_eq_getElem hlt, ← he]
    simpa using h0
  rw [List.getElem?_drop] at e2
  exact e2
theorem runP_zero (g : List Int) : ∀ i, i ≤ g.length → (runP g i).1 + (runP g i).2 ≤ g.length ∧ ∀ j, (runP g i).1 ≤ j → j < (runP g i).1 + (runP g i).2 → g[j]? = some 0
  | 0, _ => by simp [runP]
  | i + 1, hi => by
    unfold runP
    split
    · have := zerosAt_le g i
      refine ⟨by simp only; omega, fun j h1 h2 => ?_⟩
      simp only at h1 h2
      have := zerosAt_zero (g := g) (i := i) (j := j - i) (by omega)
      rwa [show i + (j - i) = j by omega] at this
    · exact runP_zero g i (by omega)
theorem fill_gap {g : List Int} {f m : Nat} (h : f + m ≤ g.length) (hz : ∀ j, f ≤ j → j < f + m → g[j]? = some 0) :
    (g.take f).map Int.toNat ++ List.replicate m 0 ++ (g.drop (f + m)).map Int.toNat = g.map Int.toNat := by
  have h1 : (g.drop f).take m = List.replicate m 0 := by
    rw [List.eq_replicate_iff]
    refine ⟨by simp; omega, fun b hb => ?_⟩
    obtain ⟨j, hj, rfl⟩ := List.getElem_of_mem hb
    have hj2 : j < m := by simp at hj; omega
    have := hz (f + j) (by omega) (by omega)
    rw [List.getElem_take, List.getElem_drop]
    rw [List.getElem?_eq_getElem (by omega)] at this
    exact Option.some.inj this
  have h2 : g = g.take f ++ (g.drop f).take m ++ g.drop (f + m) := by
    conv => lhs; rw [← List.take_append_drop f g, ← List.take_append_drop m (g.drop f)]
    rw [List.drop_drop, List.append_assoc]
  conv => rhs; rw [h2, h1]
  simp

theorem word_back (h : Int) (h1 : 0 ≤ h ∧ h < 18446744073709551616) : (foldB 65536 [(h / 281474976710656 % 65536).toNat, (h / 4294967296 % 65536).toNat, (h / 65536 % 65536).toNat, (h % 65536).toNat] : Int) = h := by
  have e2 : h / 4294967296 = h / 65536 / 65536 := by omega
  have e3 : h / 281474976710656 = h / 65536 / 65536 / 65536 := by omega
  have hx : h = 65536 * (h / 65536) + h % 65536 := by omega
  have hm : 0 ≤ h % 65536 ∧ h % 65536 < 65536 := by omega
  have hb : 0 ≤ h / 65536 ∧ h / 65536 < 281474976710656 := by omega
  rw [e2, e3]
  generalize h / 65536 = x at *
  generalize h % 65536 = a3 at *
  have hx2 : x = 65536 * (x / 65536) + x % 65536 := by omega
  have hm2 : 0 ≤ x % 65536 ∧ x % 65536 < 65536 := by omega
  have hb2 : 0 ≤ x / 65536 ∧ x / 65536 < 4294967296 := by omega
  generalize x / 65536 = y at *
  generalize x % 65536 = a2 at *
  have hx3 : y = 65536 * (y / 65536) + y % 65536 := by omega
  have hm3 : 0 ≤ y % 65536 ∧ y % 65536 < 65536 := by omega
  have hb3 : 0 ≤ y / 65536 ∧ y / 65536 < 65536 := by omega
  have hw : y / 65536 % 65536 = y / 65536 := Int.emod_eq_of_lt hb3.1 hb3.2
  rw [hw]
  generalize y / 65536 = z at *
  generalize y % 65536 = a1 at *
  clear e2 e3 hw
  obtain ⟨z, rfl⟩ : ∃ n : Nat, z = n := ⟨z.toNat, by omega⟩
  obtain ⟨a1, rfl⟩ : ∃ n : Nat, a1 = n := ⟨a1.toNat, by omega⟩
  obtain ⟨a2, rfl⟩ : ∃ n : Nat, a2 = n := ⟨a2.toNat, by omega⟩
  obtain ⟨a3, rfl⟩ : ∃ n : Nat, a3 = n := ⟨a3.toNat, by omega⟩
  unfold foldB
  simp only [List.foldl, Int.toNat_natCast, Nat.zero_mul, Nat.zero_add, Int.natCast_add, Int.natCast_mul]
  rw [hx, hx2, hx3]
  omega
theorem gps_back (hi lo : Int) (h1 : 0 ≤ hi ∧ hi < 18446744073709551616) (h2 : 0 ≤ lo ∧ lo < 18446744073709551616) : sixA ((gps hi lo).map Int.toNat) = ⟨true, hi, lo⟩ := by
  unfold gps sixA
  simp only [List.map_cons, List.map_nil, List.take_succ_cons, List.take_zero, List.drop_succ_cons, List.drop_zero]
  rw [word_back hi h1, word_back lo h2]
theorem hexT_eq (g : List Int) : hexT g = joinT 58 ((g.map Int.toNat).map (numT 16)) := by unfold hexT; rw [List.map_map]; rfl
theorem fourT_eq (g : List Int) : fourT g = joinT 46 ((g.map Int.toNat).map (numT 10)) := by unfold fourT; rw [List.map_map]; rfl
theorem hexT_noCC (g : List Int) : NoCC 58 (hexT g) := by
  rw [hexT_eq]
  refine noCC_join _ fun x hx => ?_
  obtain ⟨n, _, rfl⟩ := List.mem_map.1 hx
  exact ⟨numT_ne (by omega), (numT_sign (by omega) (by omega)).2.1⟩
theorem hexT_nums {g : List Int} (hg : ∀ x ∈ g, 0 ≤ x ∧ x < 65536) : numsO 16 58 (hexT g) = some (g.map Int.toNat) := by
  rw [hexT_eq]
  refine numsO_join (.inr rfl) (.inr (.inl rfl)) _ fun n hn => ?_
  obtain ⟨x, hx, rfl⟩ := List.mem_map.1 hn
  have := hg x hx
  simp [mostB]
  omega
/-- The text of an address is read back. -/
theorem read_txt {a : AV} (ha : a.Ok) : readP (addrTxt a.six a.hi a.lo) = some a := by
  obtain ⟨six, hi, lo⟩ := a
  obtain ⟨h1, h2, h3⟩ := ha
  simp only at h1 h2 h3 ⊢
  cases six with
  | false =>
    have hm : hi = 0 ∧ lo < 4294967296 := by unfold mayB at h3; simpa using h3
    obtain ⟨rfl, hlo⟩ := hm
    have hlt := octs4_lt ⟨false, 0, lo⟩
    have hn : (58 : UInt8) ∉ addrTxt false 0 lo := by
      unfold addrTxt
      simp only [Bool.false_eq_true, if_false]
      rw [fourT_eq]
      intro h
      rcases mem_joinT h with h | ⟨x, hx, h⟩
      · cases h
      · obtain ⟨n, _, rfl⟩ := List.mem_map.1 hx
        exact (numT_sign (by omega) (by omega)).2.1 h
    unfold readP
    rw [if_pos hn]
    have hs : numsO 10 46 (addrTxt false 0 lo) = some ((octs4 ⟨false, 0, lo⟩).map Int.toNat) := by
      unfold addrTxt
      simp only [Bool.false_eq_true, if_false]
      rw [fourT_eq]
      refine numsO_join (.inl rfl) (.inl rfl) _ fun n hn => ?_
      obtain ⟨x, hx, rfl⟩ := List.mem_map.1 hn
      have := hlt x hx
      simp [mostB]
      omega
    rw [hs]
    simp only
    rw [if_pos (by simp [octs4])]
    congr 1
    have hv : ∀ i, octN ⟨false, 0, lo⟩ i = lo.toNat / 2 ^ (24 - 8 * i) % 256 := fun i => by
      unfold octN
      rw [show (⟨false, 0, lo⟩ : AV).v = lo.toNat from rfl, show widN false - 8 - 8 * i = 24 - 8 * i from rfl]
    unfold octs4 fourA foldB
    simp only [List.range, List.range.loop, List.map_cons, List.map_nil, hv, List.foldl, Int.toNat_natCast]
    have e : (((((0 * 256 + lo.toNat / 2 ^ (24 - 8 * 0) % 256) * 256 + lo.toNat / 2 ^ (24 - 8 * 1) % 256) * 256 + lo.toNat / 2 ^ (24 - 8 * 2) % 256) * 256 + lo.toNat / 2 ^ (24 - 8 * 3) % 256 : Nat) : Int) = lo := by
      simp only [Nat.reduceMul, Nat.reduceSub, Nat.reducePow]
      omega
    rw [e]
  | true =>
    have hg := gps_lt hi lo h1.1 h2.1
    have hl := gps_len hi lo
    have hb := gps_back hi lo h1 h2
    have hz := runP_zero (gps hi lo) 8 (by omega)
    unfold addrTxt
    simp only [if_true]
    generalize gps hi lo = g at *
    generalize runP g 8 = fm at *
    obtain ⟨f, m⟩ := fm
    simp only at hz ⊢
    unfold sixT
    by_cases hm : m < 2
    · rw [if_pos hm]
      obtain ⟨a, b, c, d, e, f, u, k, rfl⟩ := lenE8 hl
      have hmem : (58 : UInt8) ∈ hexT [a, b, c, d, e, f, u, k] := by rw [hexT_eq]; exact sign_joinT
      unfold readP
      rw [if_neg (by simpa using hmem), cut_none (hexT_noCC _)]
      simp only
      rw [hexT_nums hg]
      simp only [numsO, if_true]
      rw [if_neg (by simp)]
      simpa using hb
    · rw [if_neg hm]
      have e : hexT (g.take f) ++ [58, 58] ++ hexT (g.drop (f + m)) = hexT (g.take f) ++ 58 :: 58 :: hexT (g.drop (f + m)) := by simp
      rw [e]
      unfold readP
      rw [if_neg (by simp), cut_two (hexT_noCC _)]
      simp only
      rw [hexT_nums (fun x hx => hg x (List.mem_of_mem_take hx)), hexT_nums (fun x hx => hg x (List.mem_of_mem_drop hx))]
      simp only
      have hlen : ((g.take f).map Int.toNat).length + ((g.drop (f + m)).map Int.toNat).length = 8 - m := by simp; omega
      rw [if_neg (by simp only [Bool.true_eq_false, false_and, or_false]; omega)]
      have hr : 8 - ((g.take f).map Int.toNat).length - ((g.drop (f + m)).map Int.toNat).length = m := by omega
      rw [hr, fill_gap hz.1 hz.2, hb]
/-- Texts tell addresses apart. -/
theorem txt_inj {a b : AV} (ha : a.Ok) (hb : b.Ok) (h : addrTxt a.six a.hi a.lo = addrTxt b.six b.hi b.lo) : a = b := by
  have h1 := read_txt ha
  rw [h, read_txt hb] at h1
  exact (Option.some.inj h1).symm
end Go.Proofs.YticikknfkkmoaaaDoor

namespace Go.Proofs.YticikknfkkmoaaaDoor
open Go.RowKit

theorem foldB_snoc (b : Nat) (l : List Nat) (n : Nat) : foldB b (l ++ [n]) = foldB b l * b + n := by unfold foldB; rw [List.foldl_append]; rfl
theorem foldB_lt {b : Nat} : ∀ (k : Nat) (l : List Nat), l.length = k → (∀ n ∈ l, n < b) → foldB b l < b ^ k
  | 0, l, h, _ => by
    rw [List.eq_nil_of_length_eq_zero h]
    simp [foldB]
  | k + 1, l, h, hl => by
    obtain ⟨m, n, rfl⟩ : ∃ m n, l = m ++ [n] := by
      rcases List.eq_nil_or_concat l with rfl | ⟨m, n, rfl⟩
      · simp at h
      · exact ⟨m, n, List.concat_eq_append⟩
    rw [foldB_snoc, Nat.pow_succ]
    have h1 := foldB_lt k m (by simpa using h) (fun x hx => hl x (by simp [hx]))
    have h2 := hl n (by simp)
    calc foldB b m * b + n < foldB b m * b + b := by omega
      _ = (foldB b m + 1) * b := by rw [Nat.succ_mul]
      _ ≤ b ^ k * b := Nat.mul_le_mul_right _ h1
theorem or_wrap8 (a x : Nat) (h2 : a < 72057594037927936) (h4 : x < 256) : bits .or .u64 ((a : Int) * 256) (x : Int) = ((a * 256 + x : Nat) : Int) := by
  rw [u64_or ((a : Int) * 256) x (by omega) (by omega) (by omega) (by omega), nat_join 8 _ _ (by omega) (by omega)]
  omega
theorem or_wrap16 (a x : Nat) (h2 : a < 281474976710656) (h4 : x < 65536) : bits .or .u64 ((a : Int) * 65536) (x : Int) = ((a * 65536 + x : Nat) : Int) := by
  rw [u64_or ((a : Int) * 65536) x (by omega) (by omega) (by omega) (by omega), nat_join 16 _ _ (by omega) (by omega)]
  omega
theorem index_mem (l : List UInt8) (c : UInt8) : decide (0 ≤ Lib.indexByte l c) = decide (c ∈ l) := by
  by_cases h : c ∈ l
  · rw [decide_eq_true h]
    refine decide_eq_true ?_
    have h1 := Lib.indexByte_ge l c
    rcases Int.lt_or_le (Lib.indexByte l c) 0 with h2 | h2
    · have h3 : Lib.indexByte l c = -1 := by omega
      obtain ⟨k, hk⟩ := List.mem_iff_getElem?.1 h
      exact absurd hk (Lib.indexByte_none h3 k)
    · exact h2
  · rw [decide_eq_false h]
    refine decide_eq_false fun h0 => h ?_
    obtain ⟨o, ho⟩ : ∃ o : Nat, Lib.indexByte l c = o := ⟨(Lib.indexByte l c).toNat, by omega⟩
    exact List.mem_of_getElem? (Lib.indexByte_some ho).1
theorem cut_len (s sep : List UInt8) : (Lib.cut s sep).1.length ≤ s.length ∧ (Lib.cut s sep).2.1.length ≤ s.length := by
  unfold Lib.cut
  split
  · simp only [List.length_take, List.length_drop]
    omega
  · simp
theorem numsO_le {base : Nat} {c : UInt8} {s : List UInt8} {l : List Nat} (hb : base = 10 ∨ base = 16) (h : numsO base c s = some l) : ∀ n ∈ l, n ≤ mostB base := by
  unfold numsO at h
  split at h
  · have := Option.some.inj h
    subst this
    simp
  · exact (allO_le hb h).2
/-- What addr.read hands back. -/
def ReadRet (w : World) (s : List UInt8) (e : Ending) (w' : World) : Prop :=
  ∃ six hi lo ok, e = .returned (.tuple #[.agg #[.bool six, .int .u64 hi, .int .u64 lo], .bool ok]) ∧ (ok = true → readP s = some ⟨six, hi, lo⟩) ∧ (ok = false → readP s = none) ∧ Below w.heap.size w w'
theorem readP_four {s : List UInt8} (h : 58 ∉ s) : readP s = match numsO 10 46 s with
    | some l => if l.length = 4 then some (fourA l) else none
    | none => none := by
  unfold readP
  rw [if_pos h]
  all_goals (cases numsO 10 46 s <;> rfl)
theorem read_bad {w w' : World} {s : List UInt8} {six : Bool} {hi lo : Int} (h : readP s = none) (hb : Below w.heap.size w w') : ReadRet w s (.returned (.tuple #[.agg #[.bool six, .int .u64 hi, .int .u64 lo], .bool false])) w' :=
  ⟨_, _, _, false, rfl, (by simp), fun _ => h, hb⟩
theorem read_good {w w' : World} {s : List UInt8} {six : Bool} {hi lo : Int} (h : readP s = some ⟨six, hi, lo⟩) (hb : Below w.heap.size w w') : ReadRet w s (.returned (.tuple #[.agg #[.bool six, .int .u64 hi, .int .u64 lo], .bool true])) w' :=
  ⟨_, _, _, true, rfl, fun _ => h, (by simp), hb⟩
end Go.Proofs.YticikknfkkmoaaaDoor

namespace Go.Proofs.YticikknfkkmoaaaDoor
open Go.ChangeShapes Go.WideShapes Go.ChangeAt Go.RowKit

set_option maxRecDepth 100000 in
set_option maxHeartbeats 3200000 in
theorem read_four (s : ByteArray) (hs : s.size ≤ 600) (w : World) (hg : Glo w) (h58 : (58 : UInt8) ∉ s.data.toList) : Calls Tryd.prog 9 #[.string s] w (ReadRet w s.data.toList) := by
  have hrp := readP_four h58
  have CC : Hid (∀ W, Calls Tryd.prog 20 #[.string s, .string ⟨#[58]⟩] W fun e w' => e = .returned (.bool false) ∧ w' = W) := fun W => by
    have h := Tryd.strings_Contains_one s 58 W
    rw [index_mem, decide_eq_false h58] at h
    exact h
  have CN := Lib.hid (fun (W : World) (hW : Below w.heap.size w W) => numbers_any (.inl rfl) 46 s hs W (hg.below hW))
  have HRP := Lib.hid hrp
  obtain ⟨post, hpost⟩ : ∃ post, ReadRet w s.data.toList = post := ⟨_, rfl⟩
  have HP := Lib.hid hpost
  rw [hpost]
  clear hrp hg h58 hpost
  go_enter Tryd.func9, Tryd.ntmps9
  go_wp2_with fail
  refine (CC.out _).mono ?_
  rintro e w' ⟨rfl, rfl⟩
  go_wp2_with fail
  refine (CN.out _ ((Below.refl _ _).alloc (Nat.le_refl _) _)).mono ?_
  rintro e w2 ⟨v, l, fine, rfl, hown, hlen, hor, hb2⟩
  have HB2 : Hid (Below w.heap.size w w2) := below_step ((Below.refl _ _).alloc (Nat.le_refl _) _) hb2
  have hbk : Blk w2 w.heap.size 24 #[.bool false, .int .u64 0, .int .u64 0] := (Blk.new w _ _).below hb2 (by simp)
  have c0 := hbk.cell 0
  have c1 := hbk.cell 1
  have c2 := hbk.cell 2
  simp at c0 c1 c2
  have f0 := hbk.frozen 0
  have f1 := hbk.frozen 1
  have f2 := hbk.frozen 2
  have hz2 := hbk.lt
  have HBK := Lib.hid hbk
  obtain ⟨A, c, rfl, hc, hr, hab⟩ := own_reads_at hown
  clear hown hb2 CN CC hbk
  rcases hor with ⟨rfl, hsome⟩ | ⟨rfl, hnone, rfl⟩
  rotate_left
  · have hbad : Hid (readP s.data.toList = none) := by show _ = _; rw [HRP.out, hnone]
    clear hnone
    go_wp2
    refine bodyPost_ret (v := .tuple #[.agg #[.bool false, .int .u64 0, .int .u64 0], .bool false]) ?_ rfl ?_
    · simp [results, Tryd.results9, go_sem, c0, c1, c2]
    · rw [← HP.out]
      exact read_bad hbad.out ((((HB2.out.setCell (Nat.le_refl _) _).setCell (Nat.le_refl _) _).setCell (Nat.le_refl _) _))
  · by_cases h4 : l.length = 4
    rotate_left
    · have hbad : Hid (readP s.data.toList = none) := by show _ = _; rw [HRP.out, hsome]; simp only; rw [if_neg h4]
      have h4i : ¬ ((l.length : Int) = 4) := by omega
      have h4b : ((l.length : Int) != 4) = true := by simpa using h4i
      clear hsome
      go_wp2
      all_goals
        refine bodyPost_ret (v := .tuple #[.agg #[.bool false, .int .u64 0, .int .u64 0], .bool false]) ?_ rfl ?_
        · simp [results, Tryd.results9, go_sem, c0, c1, c2]
        · rw [← HP.out]
          exact read_bad hbad.out ((((HB2.out.setCell (Nat.le_refl _) _).setCell (Nat.le_refl _) _).setCell (Nat.le_refl _) _))
    · have hgood : Hid (readP s.data.toList = some (fourA l)) := by show _ = _; rw [HRP.out, hsome]; simp only; rw [if_pos h4]
      have hle : Hid (∀ n ∈ l, n < 256) := fun n hn => by
        have := numsO_le (.inl rfl) hsome n hn
        simp [mostB] at this
        omega
      obtain ⟨ad, rfl, -, hcell⟩ := hr.2 (by omega)
      have had := hab ad rfl
      simp at had
      have HC : Hid (∀ k n, l[k]? = some n → w2.cell? (ad.add k) = some (u64V n)) := fun k n hk => hcell k _ (by rw [List.getElem?_map, hk]; rfl)
      have h4i : (l.length : Int) = 4 := by omega
      clear hsome hcell hr hab
      rw [h4]
      go_wp2
      go_loopw [35, 7] (fun i _ wr => ∃ j : Nat, j ≤ 4 ∧ i = .int .i64 j ∧ Hid (Blk wr w.heap.size 24 #[.bool false, .int .u64 0, .int .u64 (foldB 256 (l.take j) : Nat)]) ∧ Hid (∀ k n, l[k]? = some n → wr.cell? (ad.add k) = some (u64V n)) ∧ Hid (Below w.heap.size w wr)) (fun i _ _ => 4 - (RowKit.intOf i).toNat)
      case atStart => exact ⟨0, by omega, rfl, HBK, HC, HB2⟩
      case round =>
        obtain ⟨j, hj, rfl, hblk, hcs, hb⟩ := hrel
        obtain ⟨wo, rfl⟩ : ∃ wo : World, wo = wr := ⟨_, rfl⟩
        have m0 := hblk.out.cell 0
        have m1 := hblk.out.cell 1
        have m2 := hblk.out.cell 2
        simp at m0 m1 m2
        have e0 := hblk.out.frozen 0
        have e1 := hblk.out.frozen 1
        have e2 := hblk.out.frozen 2
        by_cases hlt : j < 4
        · obtain ⟨n, hn⟩ : ∃ n, l[j]? = some n := ⟨l[j]'(by omega), List.getElem?_eq_getElem (by omega)⟩
          have hx := hcs.out j n hn
          unfold u64V at hx
          have hn2 := hle.out n (List.mem_of_getElem? hn)
          have hacc : foldB 256 (l.take j) < 4294967296 := by
            have := foldB_lt (b := 256) j (l.take j) (by rw [List.length_take]; omega) (fun x hx => hle.out x (List.mem_of_mem_take hx))
            have h2 : (256 : Nat) ^ j ≤ 256 ^ 4 := Nat.pow_le_pow_right (by omega) (by omega)
            rw [show (256 : Nat) ^ 4 = 4294967296 from rfl] at h2
            omega
          have HV : Hid (bits .or .u64 (((foldB 256 (l.take j) : Nat) : Int) * 256) (n : Int) = ((foldB 256 (l.take (j + 1)) : Nat) : Int)) := by
            show _ = _
            rw [or_wrap8 _ _ (by omega) (by omega), List.take_add_one, hn]
            congr 1
            exact (foldB_snoc 256 (l.take j) n).symm
          generalize foldB 256 (l.take j) = acc at *
          clear hn
          go_wp2
          go_roundw
          case rel =>
            refine ⟨j + 1, by omega, by go_num, ?_, ?_, ?_⟩
            · show Blk _ _ _ _
              rw [HV.out]
              have := hblk.out.set_ 2 (.int .u64 ((foldB 256 (l.take (j + 1)) : Nat) : Int))
              simpa using this
            · intro k n' hk
              rw [World.cell?_setCell_far _ _ _ _ (by simp [block_of_add]; omega)]
              exact hcs.out k n' hk
            · exact hb.out.setCell (Nat.le_refl _) _
          case measure => simp [RowKit.intOf]; omega
        · obtain rfl : j = 4 := by omega
          have ht : Hid (l.take 4 = l) := by show _ = _; exact List.take_of_length_le (by omega)
          go_wp2
          refine bodyPost_ret (v := .tuple #[.agg #[.bool false, .int .u64 0, .int .u64 (foldB 256 (l.take 4) : Nat)], .bool true]) ?_ rfl ?_
          · simp [results, Tryd.results9, go_sem, m0, m1, m2]
          · rw [← HP.out]
            refine read_good ?_ ((((hb.out.setCell (Nat.le_refl _) _).setCell (Nat.le_refl _) _).setCell (Nat.le_refl _) _))
            rw [hgood.out, ht.out]
            rfl
end Go.Proofs.YticikknfkkmoaaaDoor
