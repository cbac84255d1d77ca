/-
  Proved here: contracts of library functions, laid by the shelf at this dump. No conditions but those of each theorem.
  
  
  
  
  
  
  
  
  
  
  
  
  
-/
import Derived.Shelf.Strings.OnBuilder
import Derived.Shelf.Small.Bits
import Derived.Shelf.Strconv.Itoa0
import Derived.Shelf.Strconv.Itoa1
import Derived.Shelf.LaysM
import Derived.Shelf.Strconv.Itoa2
import Derived.Shelf.Strconv.Itoa3
import Derived.Shelf.Spec.TrailingZeros
import Derived.Ground.Names7Prog
import Derived.Test.YtpecpodchkglkaaDoorProg
import Derived.Test.YtpecpodchkglkaaDoorC2
import Derived.Test.YtpecpodchkglkaaDoorC3
import Derived.Lib.ItoaMem
import Derived.Lib.AppendIntMem
import Derived.Lib.QuietBelow
import Derived.Test.YtpecpodchkglkaaDoorRows
import Derived.Lib.LaidTab
import Derived.LaidSub
import Derived.MakeChecks
import Derived.LoopN
import Derived.Laws.MathBits
import Derived.BigRegion
import Derived.Test.YtpecpodchkglkaaDoorC1
namespace Go.Proofs
open Go.Shelf
def Tryd.lays156_ren : Go.Shelf.Ren := ⟨fun | 156 => 71 | 165 => 108 | 166 => 109 | 169 => 110 | 240 => 140 | 241 => 141 | 276 => 163 | 277 => 164 | n => n, fun | 31 => 124 | 9 => 9 | 3 => 3 | 4 => 4 | 0 => 0 | 20 => 20 | 72 => 170 | 76 => 100 | 70 => 167 | 37 => 168 | 75 => 99 | 127 => 205 | 164 => 226 | 5 => 5 | 80 => 172 | n => n, fun | n => n⟩
theorem Tryd.lays156 : Go.Proofs.Lays.n156 Tryd.prog Tryd.lays156_ren := {
  mixed := by kernel_rfl
  f156 := Tryd.func71.trans (congrArg some (by kernel_rfl))
  f165 := Tryd.func108.trans (congrArg some (by kernel_rfl))
  f166 := Tryd.func109.trans (congrArg some (by kernel_rfl))
  f169 := Tryd.func110.trans (congrArg some (by kernel_rfl))
  f240 := Tryd.func140.trans (congrArg some (by kernel_rfl))
  f241 := Tryd.func141.trans (congrArg some (by kernel_rfl))
  f276 := Tryd.func163.trans (congrArg some (by kernel_rfl))
  f277 := Tryd.func164.trans (congrArg some (by kernel_rfl))
  t0 := Tryd.underlying0
  a0 := Tryd.isAgg0
  z0 := Tryd.sizeOf0
  v0 := Tryd.zeroValue0
  t3 := Tryd.underlying3
  a3 := Tryd.isAgg3
  z3 := Tryd.sizeOf3
  v3 := Tryd.zeroValue3
  t4 := Tryd.underlying4
  a4 := Tryd.isAgg4
  z4 := Tryd.sizeOf4
  v4 := Tryd.zeroValue4
  t9 := Tryd.underlying9
  a9 := Tryd.isAgg9
  z9 := Tryd.sizeOf9
  v9 := Tryd.zeroValue9
  t20 := Tryd.underlying20
  a20 := Tryd.isAgg20
  z20 := Tryd.sizeOf20
  v20 := Tryd.zeroValue20
  t31 := Tryd.underlying124
  a31 := Tryd.isAgg124
  z31 := Tryd.sizeOf124
  v31 := Tryd.zeroValue124
  t37 := Tryd.underlying168
  a37 := Tryd.isAgg168
  z37 := Tryd.sizeOf168
  v37 := Tryd.zeroValue168
  t70 := Tryd.underlying167
  a70 := Tryd.isAgg167
  z70 := Tryd.sizeOf167
  v70 := Tryd.zeroValue167
  t72 := Tryd.underlying170
  a72 := Tryd.isAgg170
  z72 := Tryd.sizeOf170
  v72 := Tryd.zeroValue170
  t75 := Tryd.underlying99
  a75 := Tryd.isAgg99
  z75 := Tryd.sizeOf99
  v75 := Tryd.zeroValue99
  t76 := Tryd.underlying100
  a76 := Tryd.isAgg100
  z76 := Tryd.sizeOf100
  v76 := Tryd.zeroValue100
  t127 := Tryd.underlying205
  a127 := Tryd.isAgg205
  z127 := Tryd.sizeOf205
  v127 := Tryd.zeroValue205
  t164 := Tryd.underlying226
  a164 := Tryd.isAgg226
  z164 := Tryd.sizeOf226
  v164 := Tryd.zeroValue226 }
theorem Tryd.Builder_Extra_156 : Builder.Extra Tryd.prog Tryd.lays156_ren := {
  sizeBuilder := by kernel_rfl
  liesBuilder := by kernel_rfl
  t5 := Tryd.underlying5
  a5 := Tryd.isAgg5
  z5 := Tryd.sizeOf5
  v5 := Tryd.zeroValue5
  infoByte := by kernel_rfl
  cellsByte := by kernel_rfl
  sizeByte := by kernel_rfl
  neB5 := by decide }
open Go.RowKit in
theorem Tryd.strings_Join_none (a : Option Addr) (c : Nat) (sep : ByteArray) (w : World) :
    Calls Tryd.prog 71 #[.slice a 0 c, .string sep] w fun e w' => e = .returned (.string ⟨#[]⟩) ∧ w' = w := Any.strings_Join_none Tryd.lays156 Tryd.Builder_Extra_156 a c sep w
open Go.RowKit in
theorem Tryd.strings_Join (bk o c : Nat) (xs : List ByteArray) (sep : ByteArray) (w : World) (hcells : ∀ (j : Nat) x, xs[j]? = some x → w.cell? ⟨bk, o + j, none⟩ = some (.string x)) (hbk : bk < w.heap.size) (hN : xs.length ≤ 140737488355328) (hcap : xs.length ≤ c) (hlen : (Lib.join (xs.map (·.data.toList)) sep.data.toList).length ≤ 140737488355328) :
    Calls Tryd.prog 71 #[.slice (some ⟨bk, o, none⟩) xs.length c, .string sep] w fun e w' => e = .returned (.string ⟨(Lib.join (xs.map (·.data.toList)) sep.data.toList).toArray⟩) ∧ Below w.heap.size w w' := Any.strings_Join Tryd.lays156 Tryd.Builder_Extra_156 bk o c xs sep w hcells hbk hN hcap hlen
def Tryd.lays128_ren : Go.Shelf.Ren := ⟨fun | 128 => 105 | n => n, fun | 51 => 166 | 3 => 3 | 4 => 4 | 46 => 122 | 5 => 5 | 9 => 9 | n => n, fun | n => n⟩
theorem Tryd.lays128 : Go.Proofs.Lays.n128 Tryd.prog Tryd.lays128_ren := {
  mixed := by kernel_rfl
  f128 := Tryd.func105.trans (congrArg some (by kernel_rfl))
  t3 := Tryd.underlying3
  a3 := Tryd.isAgg3
  z3 := Tryd.sizeOf3
  v3 := Tryd.zeroValue3
  t4 := Tryd.underlying4
  a4 := Tryd.isAgg4
  z4 := Tryd.sizeOf4
  v4 := Tryd.zeroValue4
  t5 := Tryd.underlying5
  a5 := Tryd.isAgg5
  z5 := Tryd.sizeOf5
  v5 := Tryd.zeroValue5
  t9 := Tryd.underlying9
  a9 := Tryd.isAgg9
  z9 := Tryd.sizeOf9
  v9 := Tryd.zeroValue9
  t46 := Tryd.underlying122
  a46 := Tryd.isAgg122
  z46 := Tryd.sizeOf122
  v46 := Tryd.zeroValue122
  t51 := Tryd.underlying166
  a51 := Tryd.isAgg166
  z51 := Tryd.sizeOf166
  v51 := Tryd.zeroValue166 }
theorem Tryd.bits_Len32 (x : Int) (w : World) (h0 : 0 ≤ x) (h1 : x ≤ 4294967295) :
    Calls Tryd.prog 105 #[.int .u32 x] w fun e w' => e = .returned (.int .i64 (Lib.bitLen x.toNat)) ∧ w' = w := Any.bits_Len32 Tryd.lays128 x w h0 h1
def Tryd.lays125_ren : Go.Shelf.Ren := ⟨fun | 125 => 68 | 128 => 105 | 129 => 106 | n => n, fun | 46 => 122 | 3 => 3 | 51 => 166 | 53 => 34 | 4 => 4 | 5 => 5 | 9 => 9 | n => n, fun | n => n⟩
theorem Tryd.lays125 : Go.Proofs.Lays.n125 Tryd.prog Tryd.lays125_ren := {
  mixed := by kernel_rfl
  f125 := Tryd.func68.trans (congrArg some (by kernel_rfl))
  f128 := Tryd.func105.trans (congrArg some (by kernel_rfl))
  f129 := Tryd.func106.trans (congrArg some (by kernel_rfl))
  t3 := Tryd.underlying3
  a3 := Tryd.isAgg3
  z3 := Tryd.sizeOf3
  v3 := Tryd.zeroValue3
  t4 := Tryd.underlying4
  a4 := Tryd.isAgg4
  z4 := Tryd.sizeOf4
  v4 := Tryd.zeroValue4
  t5 := Tryd.underlying5
  a5 := Tryd.isAgg5
  z5 := Tryd.sizeOf5
  v5 := Tryd.zeroValue5
  t9 := Tryd.underlying9
  a9 := Tryd.isAgg9
  z9 := Tryd.sizeOf9
  v9 := Tryd.zeroValue9
  t46 := Tryd.underlying122
  a46 := Tryd.isAgg122
  z46 := Tryd.sizeOf122
  v46 := Tryd.zeroValue122
  t51 := Tryd.underlying166
  a51 := Tryd.isAgg166
  z51 := Tryd.sizeOf166
  v51 := Tryd.zeroValue166
  t53 := Tryd.underlying34
  a53 := Tryd.isAgg34
  z53 := Tryd.sizeOf34
  v53 := Tryd.zeroValue34 }
theorem Tryd.bits_Len (x : Int) (w : World) (h0 : 0 ≤ x) (h1 : x ≤ 18446744073709551615) :
    Calls Tryd.prog 68 #[.int .u64 x] w fun e w' => e = .returned (.int .i64 (Lib.bitLen x.toNat)) ∧ w' = w := Any.bits_Len Tryd.lays125 x w h0 h1
def Tryd.lays133_ren : Go.Shelf.Ren := ⟨fun | 133 => 172 | 128 => 105 | n => n, fun | 51 => 166 | 3 => 3 | 4 => 4 | 46 => 122 | 5 => 5 | 9 => 9 | n => n, fun | n => n⟩
theorem Tryd.lays133 : Go.Proofs.Lays.n133 Tryd.prog Tryd.lays133_ren := {
  mixed := by kernel_rfl
  f128 := Tryd.func105.trans (congrArg some (by kernel_rfl))
  f133 := Tryd.func172.trans (congrArg some (by kernel_rfl))
  t3 := Tryd.underlying3
  a3 := Tryd.isAgg3
  z3 := Tryd.sizeOf3
  v3 := Tryd.zeroValue3
  t4 := Tryd.underlying4
  a4 := Tryd.isAgg4
  z4 := Tryd.sizeOf4
  v4 := Tryd.zeroValue4
  t5 := Tryd.underlying5
  a5 := Tryd.isAgg5
  z5 := Tryd.sizeOf5
  v5 := Tryd.zeroValue5
  t9 := Tryd.underlying9
  a9 := Tryd.isAgg9
  z9 := Tryd.sizeOf9
  v9 := Tryd.zeroValue9
  t46 := Tryd.underlying122
  a46 := Tryd.isAgg122
  z46 := Tryd.sizeOf122
  v46 := Tryd.zeroValue122
  t51 := Tryd.underlying166
  a51 := Tryd.isAgg166
  z51 := Tryd.sizeOf166
  v51 := Tryd.zeroValue166 }
theorem Tryd.bits_LeadingZeros32 (x : Int) (w : World) (h0 : 0 ≤ x) (h1 : x ≤ 4294967295) :
    Calls Tryd.prog 172 #[.int .u32 x] w fun e w' => e = .returned (.int .i64 (32 - (Lib.bitLen x.toNat : Int))) ∧ w' = w := Any.bits_LeadingZeros32 Tryd.lays133 x w h0 h1
def Tryd.lays134_ren : Go.Shelf.Ren := ⟨fun | 134 => 173 | 129 => 106 | n => n, fun | 53 => 34 | 3 => 3 | 4 => 4 | 46 => 122 | 5 => 5 | 9 => 9 | n => n, fun | n => n⟩
theorem Tryd.lays134 : Go.Proofs.Lays.n134 Tryd.prog Tryd.lays134_ren := {
  mixed := by kernel_rfl
  f129 := Tryd.func106.trans (congrArg some (by kernel_rfl))
  f134 := Tryd.func173.trans (congrArg some (by kernel_rfl))
  t3 := Tryd.underlying3
  a3 := Tryd.isAgg3
  z3 := Tryd.sizeOf3
  v3 := Tryd.zeroValue3
  t4 := Tryd.underlying4
  a4 := Tryd.isAgg4
  z4 := Tryd.sizeOf4
  v4 := Tryd.zeroValue4
  t5 := Tryd.underlying5
  a5 := Tryd.isAgg5
  z5 := Tryd.sizeOf5
  v5 := Tryd.zeroValue5
  t9 := Tryd.underlying9
  a9 := Tryd.isAgg9
  z9 := Tryd.sizeOf9
  v9 := Tryd.zeroValue9
  t46 := Tryd.underlying122
  a46 := Tryd.isAgg122
  z46 := Tryd.sizeOf122
  v46 := Tryd.zeroValue122
  t53 := Tryd.underlying34
  a53 := Tryd.isAgg34
  z53 := Tryd.sizeOf34
  v53 := Tryd.zeroValue34 }
theorem Tryd.bits_LeadingZeros64 (x : Int) (w : World) (h0 : 0 ≤ x) (h1 : x ≤ 18446744073709551615) :
    Calls Tryd.prog 173 #[.int .u64 x] w fun e w' => e = .returned (.int .i64 (64 - (Lib.bitLen x.toNat : Int))) ∧ w' = w := Any.bits_LeadingZeros64 Tryd.lays134 x w h0 h1
def Tryd.lays129_ren : Go.Shelf.Ren := ⟨fun | 129 => 106 | n => n, fun | 53 => 34 | 3 => 3 | 4 => 4 | 46 => 122 | 5 => 5 | 9 => 9 | n => n, fun | n => n⟩
theorem Tryd.lays129 : Go.Proofs.Lays.n129 Tryd.prog Tryd.lays129_ren := {
  mixed := by kernel_rfl
  f129 := Tryd.func106.trans (congrArg some (by kernel_rfl))
  t3 := Tryd.underlying3
  a3 := Tryd.isAgg3
  z3 := Tryd.sizeOf3
  v3 := Tryd.zeroValue3
  t4 := Tryd.underlying4
  a4 := Tryd.isAgg4
  z4 := Tryd.sizeOf4
  v4 := Tryd.zeroValue4
  t5 := Tryd.underlying5
  a5 := Tryd.isAgg5
  z5 := Tryd.sizeOf5
  v5 := Tryd.zeroValue5
  t9 := Tryd.underlying9
  a9 := Tryd.isAgg9
  z9 := Tryd.sizeOf9
  v9 := Tryd.zeroValue9
  t46 := Tryd.underlying122
  a46 := Tryd.isAgg122
  z46 := Tryd.sizeOf122
  v46 := Tryd.zeroValue122
  t53 := Tryd.underlying34
  a53 := Tryd.isAgg34
  z53 := Tryd.sizeOf34
  v53 := Tryd.zeroValue34 }
theorem Tryd.bits_Len64 (x : Int) (w : World) (h0 : 0 ≤ x) (h1 : x ≤ 18446744073709551615) :
    Calls Tryd.prog 106 #[.int .u64 x] w fun e w' => e = .returned (.int .i64 (Lib.bitLen x.toNat)) ∧ w' = w := Any.bits_Len64 Tryd.lays129 x w h0 h1
def Tryd.lays283_ren : Go.Shelf.Ren := ⟨fun | 283 => 136 | n => n, fun | 3 => 3 | 9 => 9 | 4 => 4 | n => n, fun | n => n⟩
theorem Tryd.lays283 : Go.Proofs.Lays.n283 Tryd.prog Tryd.lays283_ren := {
  mixed := by kernel_rfl
  f283 := Tryd.func136.trans (congrArg some (by kernel_rfl))
  t3 := Tryd.underlying3
  a3 := Tryd.isAgg3
  z3 := Tryd.sizeOf3
  v3 := Tryd.zeroValue3
  t4 := Tryd.underlying4
  a4 := Tryd.isAgg4
  z4 := Tryd.sizeOf4
  v4 := Tryd.zeroValue4
  t9 := Tryd.underlying9
  a9 := Tryd.isAgg9
  z9 := Tryd.sizeOf9
  v9 := Tryd.zeroValue9 }
open Go.Lib in
theorem Tryd.internal_strconv_small (i : Nat) (h : i < 100) (w : World) :
    Calls Tryd.prog 136 #[.int .i64 i] w fun e w' => e = .returned (.string ⟨(Lib.decDigits i).toArray⟩) ∧ w' = w := Any.internal_strconv_small Tryd.lays283 i h w
def Tryd.laysM284_ren : Go.Shelf.Ren := ⟨fun | 284 => 137 | 129 => 106 | 317 => 159 | 318 => 160 | n => n, fun | 53 => 34 | 3 => 3 | 212 => 223 | 0 => 0 | 4 => 4 | 46 => 122 | 5 => 5 | 9 => 9 | n => n, fun | 17 => 4 | n => n⟩
theorem Tryd.laysM284 : Go.Proofs.LaysM.n284 Tryd.prog Tryd.laysM284_ren := {
  mixed := by kernel_rfl
  f129 := Tryd.func106.trans (congrArg some (by kernel_rfl))
  f284 := Tryd.func137.trans (congrArg some (by kernel_rfl))
  f317 := Tryd.func159.trans (congrArg some (by kernel_rfl))
  f318 := Tryd.func160.trans (congrArg some (by kernel_rfl))
  t0 := Tryd.underlying0
  a0 := Tryd.isAgg0
  z0 := Tryd.sizeOf0
  v0 := Tryd.zeroValue0
  t3 := Tryd.underlying3
  a3 := Tryd.isAgg3
  z3 := Tryd.sizeOf3
  v3 := Tryd.zeroValue3
  t4 := Tryd.underlying4
  a4 := Tryd.isAgg4
  z4 := Tryd.sizeOf4
  v4 := Tryd.zeroValue4
  t5 := Tryd.underlying5
  a5 := Tryd.isAgg5
  z5 := Tryd.sizeOf5
  v5 := Tryd.zeroValue5
  t9 := Tryd.underlying9
  a9 := Tryd.isAgg9
  z9 := Tryd.sizeOf9
  v9 := Tryd.zeroValue9
  t46 := Tryd.underlying122
  a46 := Tryd.isAgg122
  z46 := Tryd.sizeOf122
  v46 := Tryd.zeroValue122
  t53 := Tryd.underlying34
  a53 := Tryd.isAgg34
  z53 := Tryd.sizeOf34
  v53 := Tryd.zeroValue34
  t212 := Tryd.underlying223
  a212 := Tryd.isAgg223
  z212 := Tryd.sizeOf223
  v212 := Tryd.zeroValue223
  g17 := by kernel_rfl
  i0 := by kernel_rfl
  i3 := by kernel_rfl
  i4 := by kernel_rfl
  i5 := by kernel_rfl
  i9 := by kernel_rfl
  i46 := by kernel_rfl
  i53 := by kernel_rfl
  i212 := by kernel_rfl
  m17 := by kernel_rfl }
open Go.Lib in
theorem Tryd.internal_strconv_numDigits (u : Nat) (h1 : 1 ≤ u) (h2 : u < 18446744073709551616) (w : World) (htab : Lib.TabIs Tryd.prog w "internal/strconv.uint64pow10" .u64 Lib.pow10Tab) :
    Calls Tryd.prog 137 #[.int .u64 u] w fun e w' => e = .returned (.int .i64 (Lib.nDigits u)) ∧ w' = w := Any.internal_strconv_numDigits Tryd.laysM284 u h1 h2 w htab
def Tryd.lays285_ren : Go.Shelf.Ren := ⟨fun | 285 => 138 | n => n, fun | 37 => 168 | 53 => 34 | 3 => 3 | 4 => 4 | 51 => 166 | 9 => 9 | 5 => 5 | 0 => 0 | n => n, fun | n => n⟩
theorem Tryd.lays285 : Go.Proofs.Lays.n285 Tryd.prog Tryd.lays285_ren := {
  mixed := by kernel_rfl
  f285 := Tryd.func138.trans (congrArg some (by kernel_rfl))
  t0 := Tryd.underlying0
  a0 := Tryd.isAgg0
  z0 := Tryd.sizeOf0
  v0 := Tryd.zeroValue0
  t3 := Tryd.underlying3
  a3 := Tryd.isAgg3
  z3 := Tryd.sizeOf3
  v3 := Tryd.zeroValue3
  t4 := Tryd.underlying4
  a4 := Tryd.isAgg4
  z4 := Tryd.sizeOf4
  v4 := Tryd.zeroValue4
  t5 := Tryd.underlying5
  a5 := Tryd.isAgg5
  z5 := Tryd.sizeOf5
  v5 := Tryd.zeroValue5
  t9 := Tryd.underlying9
  a9 := Tryd.isAgg9
  z9 := Tryd.sizeOf9
  v9 := Tryd.zeroValue9
  t37 := Tryd.underlying168
  a37 := Tryd.isAgg168
  z37 := Tryd.sizeOf168
  v37 := Tryd.zeroValue168
  t51 := Tryd.underlying166
  a51 := Tryd.isAgg166
  z51 := Tryd.sizeOf166
  v51 := Tryd.zeroValue166
  t53 := Tryd.underlying34
  a53 := Tryd.isAgg34
  z53 := Tryd.sizeOf34
  v53 := Tryd.zeroValue34 }
open Go.RowKit Go.Sort Go.Lib in
theorem Tryd.internal_strconv_formatBase10 (blk off cap : Nat) (u : Nat) (d : Array UInt8) (w : World) (hH : Holds (fun (b : UInt8) => Value.int .u8 (b.toNat : Int)) w blk off d) (hu : u < 10 ^ d.size) (hu64 : u < 18446744073709551616) (hsz : d.size < 4611686018427387904) :
    Calls Tryd.prog 138 #[.slice (some ⟨blk, off, none⟩) d.size cap, .int .u64 u] w fun e w' =>
      e = .returned (.tuple #[]) ∧ ∃ (n v' : Nat) (dk : Array UInt8), w' = (putRow (fun (b : UInt8) => Value.int .u8 (b.toNat : Int)) w blk off dk).drewN n ∧ FmtInv d.size u 0 v' dk := Any.internal_strconv_formatBase10 Tryd.lays285 blk off cap u d w hH hu hu64 hsz
def Tryd.laysM246_ren : Go.Shelf.Ren := ⟨fun | 246 => 143 | 283 => 136 | 284 => 137 | 285 => 138 | 286 => 139 | 129 => 106 | 317 => 159 | 318 => 160 | 319 => 161 | 320 => 162 | 337 => 174 | 338 => 93 | n => n, fun | 2 => 2 | 3 => 3 | 9 => 9 | 4 => 4 | 171 => 201 | 0 => 0 | 53 => 34 | 37 => 168 | 5 => 5 | 173 => 203 | 212 => 223 | 51 => 166 | 20 => 20 | 213 => 224 | 46 => 122 | 232 => 239 | 233 => 195 | n => n, fun | 17 => 4 | 18 => 5 | 19 => 0 | n => n⟩
theorem Tryd.laysM246 : Go.Proofs.LaysM.n246 Tryd.prog Tryd.laysM246_ren := {
  mixed := by kernel_rfl
  f129 := Tryd.func106.trans (congrArg some (by kernel_rfl))
  f246 := Tryd.func143.trans (congrArg some (by kernel_rfl))
  f283 := Tryd.func136.trans (congrArg some (by kernel_rfl))
  f284 := Tryd.func137.trans (congrArg some (by kernel_rfl))
  f285 := Tryd.func138.trans (congrArg some (by kernel_rfl))
  f286 := Tryd.func139.trans (congrArg some (by kernel_rfl))
  f317 := Tryd.func159.trans (congrArg some (by kernel_rfl))
  f318 := Tryd.func160.trans (congrArg some (by kernel_rfl))
  f319 := Tryd.func161.trans (congrArg some (by kernel_rfl))
  f320 := Tryd.func162.trans (congrArg some (by kernel_rfl))
  f337 := Tryd.func174.trans (congrArg some (by kernel_rfl))
  f338 := Tryd.func93.trans (congrArg some (by kernel_rfl))
  t0 := Tryd.underlying0
  a0 := Tryd.isAgg0
  z0 := Tryd.sizeOf0
  v0 := Tryd.zeroValue0
  t2 := Tryd.underlying2
  a2 := Tryd.isAgg2
  z2 := Tryd.sizeOf2
  v2 := Tryd.zeroValue2
  t3 := Tryd.underlying3
  a3 := Tryd.isAgg3
  z3 := Tryd.sizeOf3
  v3 := Tryd.zeroValue3
  t4 := Tryd.underlying4
  a4 := Tryd.isAgg4
  z4 := Tryd.sizeOf4
  v4 := Tryd.zeroValue4
  t5 := Tryd.underlying5
  a5 := Tryd.isAgg5
  z5 := Tryd.sizeOf5
  v5 := Tryd.zeroValue5
  t9 := Tryd.underlying9
  a9 := Tryd.isAgg9
  z9 := Tryd.sizeOf9
  v9 := Tryd.zeroValue9
  t20 := Tryd.underlying20
  a20 := Tryd.isAgg20
  z20 := Tryd.sizeOf20
  v20 := Tryd.zeroValue20
  t37 := Tryd.underlying168
  a37 := Tryd.isAgg168
  z37 := Tryd.sizeOf168
  v37 := Tryd.zeroValue168
  t46 := Tryd.underlying122
  a46 := Tryd.isAgg122
  z46 := Tryd.sizeOf122
  v46 := Tryd.zeroValue122
  t51 := Tryd.underlying166
  a51 := Tryd.isAgg166
  z51 := Tryd.sizeOf166
  v51 := Tryd.zeroValue166
  t53 := Tryd.underlying34
  a53 := Tryd.isAgg34
  z53 := Tryd.sizeOf34
  v53 := Tryd.zeroValue34
  t171 := Tryd.underlying201
  a171 := Tryd.isAgg201
  z171 := Tryd.sizeOf201
  v171 := Tryd.zeroValue201
  t173 := Tryd.underlying203
  a173 := Tryd.isAgg203
  z173 := Tryd.sizeOf203
  v173 := Tryd.zeroValue203
  t212 := Tryd.underlying223
  a212 := Tryd.isAgg223
  z212 := Tryd.sizeOf223
  v212 := Tryd.zeroValue223
  t213 := Tryd.underlying224
  a213 := Tryd.isAgg224
  z213 := Tryd.sizeOf224
  t232 := Tryd.underlying239
  a232 := Tryd.isAgg239
  z232 := Tryd.sizeOf239
  v232 := Tryd.zeroValue239
  t233 := Tryd.underlying195
  a233 := Tryd.isAgg195
  z233 := Tryd.sizeOf195
  v233 := Tryd.zeroValue195
  g17 := by kernel_rfl
  g18 := by kernel_rfl
  g19 := by kernel_rfl
  i0 := by kernel_rfl
  i2 := by kernel_rfl
  i3 := by kernel_rfl
  i4 := by kernel_rfl
  i5 := by kernel_rfl
  i9 := by kernel_rfl
  i20 := by kernel_rfl
  i37 := by kernel_rfl
  i46 := by kernel_rfl
  i51 := by kernel_rfl
  i53 := by kernel_rfl
  i171 := by kernel_rfl
  i173 := by kernel_rfl
  i212 := by kernel_rfl
  i232 := by kernel_rfl
  i233 := by kernel_rfl
  m17 := by kernel_rfl
  m18 := by kernel_rfl
  m19 := by kernel_rfl }
open Go.RowKit Go.Sort Go.Lib in
theorem Tryd.internal_strconv_FormatInt_10 (n : Int) (h0 : -9223372036854775808 ≤ n) (h1 : n ≤ 9223372036854775807) (w : World) (htab : Lib.TabIs Tryd.prog w "internal/strconv.uint64pow10" .u64 Lib.pow10Tab) :
    Calls Tryd.prog 143 #[.int .i64 n, .int .i64 10] w fun e w' => e = .returned (.string ⟨(Lib.itoa n).toArray⟩) ∧ ∃ k os, w' = grow (w.drewN k) os := Any.internal_strconv_FormatInt_10 Tryd.laysM246 n h0 h1 w htab
def Tryd.laysM243_ren : Go.Shelf.Ren := ⟨fun | 243 => 113 | 246 => 143 | 283 => 136 | 284 => 137 | 285 => 138 | 286 => 139 | 129 => 106 | 317 => 159 | 318 => 160 | 319 => 161 | 320 => 162 | 337 => 174 | 338 => 93 | n => n, fun | 3 => 3 | 9 => 9 | 2 => 2 | 4 => 4 | 171 => 201 | 0 => 0 | 53 => 34 | 37 => 168 | 5 => 5 | 173 => 203 | 212 => 223 | 51 => 166 | 20 => 20 | 213 => 224 | 46 => 122 | 232 => 239 | 233 => 195 | n => n, fun | 17 => 4 | 18 => 5 | 19 => 0 | n => n⟩
theorem Tryd.laysM243 : Go.Proofs.LaysM.n243 Tryd.prog Tryd.laysM243_ren := {
  mixed := by kernel_rfl
  f129 := Tryd.func106.trans (congrArg some (by kernel_rfl))
  f243 := Tryd.func113.trans (congrArg some (by kernel_rfl))
  f246 := Tryd.func143.trans (congrArg some (by kernel_rfl))
  f283 := Tryd.func136.trans (congrArg some (by kernel_rfl))
  f284 := Tryd.func137.trans (congrArg some (by kernel_rfl))
  f285 := Tryd.func138.trans (congrArg some (by kernel_rfl))
  f286 := Tryd.func139.trans (congrArg some (by kernel_rfl))
  f317 := Tryd.func159.trans (congrArg some (by kernel_rfl))
  f318 := Tryd.func160.trans (congrArg some (by kernel_rfl))
  f319 := Tryd.func161.trans (congrArg some (by kernel_rfl))
  f320 := Tryd.func162.trans (congrArg some (by kernel_rfl))
  f337 := Tryd.func174.trans (congrArg some (by kernel_rfl))
  f338 := Tryd.func93.trans (congrArg some (by kernel_rfl))
  t0 := Tryd.underlying0
  a0 := Tryd.isAgg0
  z0 := Tryd.sizeOf0
  v0 := Tryd.zeroValue0
  t2 := Tryd.underlying2
  a2 := Tryd.isAgg2
  z2 := Tryd.sizeOf2
  v2 := Tryd.zeroValue2
  t3 := Tryd.underlying3
  a3 := Tryd.isAgg3
  z3 := Tryd.sizeOf3
  v3 := Tryd.zeroValue3
  t4 := Tryd.underlying4
  a4 := Tryd.isAgg4
  z4 := Tryd.sizeOf4
  v4 := Tryd.zeroValue4
  t5 := Tryd.underlying5
  a5 := Tryd.isAgg5
  z5 := Tryd.sizeOf5
  v5 := Tryd.zeroValue5
  t9 := Tryd.underlying9
  a9 := Tryd.isAgg9
  z9 := Tryd.sizeOf9
  v9 := Tryd.zeroValue9
  t20 := Tryd.underlying20
  a20 := Tryd.isAgg20
  z20 := Tryd.sizeOf20
  v20 := Tryd.zeroValue20
  t37 := Tryd.underlying168
  a37 := Tryd.isAgg168
  z37 := Tryd.sizeOf168
  v37 := Tryd.zeroValue168
  t46 := Tryd.underlying122
  a46 := Tryd.isAgg122
  z46 := Tryd.sizeOf122
  v46 := Tryd.zeroValue122
  t51 := Tryd.underlying166
  a51 := Tryd.isAgg166
  z51 := Tryd.sizeOf166
  v51 := Tryd.zeroValue166
  t53 := Tryd.underlying34
  a53 := Tryd.isAgg34
  z53 := Tryd.sizeOf34
  v53 := Tryd.zeroValue34
  t171 := Tryd.underlying201
  a171 := Tryd.isAgg201
  z171 := Tryd.sizeOf201
  v171 := Tryd.zeroValue201
  t173 := Tryd.underlying203
  a173 := Tryd.isAgg203
  z173 := Tryd.sizeOf203
  v173 := Tryd.zeroValue203
  t212 := Tryd.underlying223
  a212 := Tryd.isAgg223
  z212 := Tryd.sizeOf223
  v212 := Tryd.zeroValue223
  t213 := Tryd.underlying224
  a213 := Tryd.isAgg224
  z213 := Tryd.sizeOf224
  t232 := Tryd.underlying239
  a232 := Tryd.isAgg239
  z232 := Tryd.sizeOf239
  v232 := Tryd.zeroValue239
  t233 := Tryd.underlying195
  a233 := Tryd.isAgg195
  z233 := Tryd.sizeOf195
  v233 := Tryd.zeroValue195
  g17 := by kernel_rfl
  g18 := by kernel_rfl
  g19 := by kernel_rfl
  i0 := by kernel_rfl
  i2 := by kernel_rfl
  i3 := by kernel_rfl
  i4 := by kernel_rfl
  i5 := by kernel_rfl
  i9 := by kernel_rfl
  i20 := by kernel_rfl
  i37 := by kernel_rfl
  i46 := by kernel_rfl
  i51 := by kernel_rfl
  i53 := by kernel_rfl
  i171 := by kernel_rfl
  i173 := by kernel_rfl
  i212 := by kernel_rfl
  i232 := by kernel_rfl
  i233 := by kernel_rfl
  m17 := by kernel_rfl
  m18 := by kernel_rfl
  m19 := by kernel_rfl }
open Go.RowKit Go.Sort Go.Lib in
theorem Tryd.internal_strconv_Itoa (n : Int) (h0 : -9223372036854775808 ≤ n) (h1 : n ≤ 9223372036854775807) (w : World) (htab : Lib.TabIs Tryd.prog w "internal/strconv.uint64pow10" .u64 Lib.pow10Tab) :
    Calls Tryd.prog 113 #[.int .i64 n] w fun e w' => e = .returned (.string ⟨(Lib.itoa n).toArray⟩) ∧ ∃ k os, w' = grow (w.drewN k) os := Any.internal_strconv_Itoa Tryd.laysM243 n h0 h1 w htab
def Tryd.laysM171_ren : Go.Shelf.Ren := ⟨fun | 171 => 79 | 243 => 113 | 246 => 143 | 283 => 136 | 284 => 137 | 285 => 138 | 286 => 139 | 129 => 106 | 317 => 159 | 318 => 160 | 319 => 161 | 320 => 162 | 337 => 174 | 338 => 93 | n => n, fun | 3 => 3 | 9 => 9 | 2 => 2 | 4 => 4 | 171 => 201 | 0 => 0 | 53 => 34 | 37 => 168 | 5 => 5 | 173 => 203 | 212 => 223 | 51 => 166 | 20 => 20 | 213 => 224 | 46 => 122 | 232 => 239 | 233 => 195 | n => n, fun | 17 => 4 | 18 => 5 | 19 => 0 | n => n⟩
theorem Tryd.laysM171 : Go.Proofs.LaysM.n171 Tryd.prog Tryd.laysM171_ren := {
  mixed := by kernel_rfl
  f129 := Tryd.func106.trans (congrArg some (by kernel_rfl))
  f171 := Tryd.func79.trans (congrArg some (by kernel_rfl))
  f243 := Tryd.func113.trans (congrArg some (by kernel_rfl))
  f246 := Tryd.func143.trans (congrArg some (by kernel_rfl))
  f283 := Tryd.func136.trans (congrArg some (by kernel_rfl))
  f284 := Tryd.func137.trans (congrArg some (by kernel_rfl))
  f285 := Tryd.func138.trans (congrArg some (by kernel_rfl))
  f286 := Tryd.func139.trans (congrArg some (by kernel_rfl))
  f317 := Tryd.func159.trans (congrArg some (by kernel_rfl))
  f318 := Tryd.func160.trans (congrArg some (by kernel_rfl))
  f319 := Tryd.func161.trans (congrArg some (by kernel_rfl))
  f320 := Tryd.func162.trans (congrArg some (by kernel_rfl))
  f337 := Tryd.func174.trans (congrArg some (by kernel_rfl))
  f338 := Tryd.func93.trans (congrArg some (by kernel_rfl))
  t0 := Tryd.underlying0
  a0 := Tryd.isAgg0
  z0 := Tryd.sizeOf0
  v0 := Tryd.zeroValue0
  t2 := Tryd.underlying2
  a2 := Tryd.isAgg2
  z2 := Tryd.sizeOf2
  v2 := Tryd.zeroValue2
  t3 := Tryd.underlying3
  a3 := Tryd.isAgg3
  z3 := Tryd.sizeOf3
  v3 := Tryd.zeroValue3
  t4 := Tryd.underlying4
  a4 := Tryd.isAgg4
  z4 := Tryd.sizeOf4
  v4 := Tryd.zeroValue4
  t5 := Tryd.underlying5
  a5 := Tryd.isAgg5
  z5 := Tryd.sizeOf5
  v5 := Tryd.zeroValue5
  t9 := Tryd.underlying9
  a9 := Tryd.isAgg9
  z9 := Tryd.sizeOf9
  v9 := Tryd.zeroValue9
  t20 := Tryd.underlying20
  a20 := Tryd.isAgg20
  z20 := Tryd.sizeOf20
  v20 := Tryd.zeroValue20
  t37 := Tryd.underlying168
  a37 := Tryd.isAgg168
  z37 := Tryd.sizeOf168
  v37 := Tryd.zeroValue168
  t46 := Tryd.underlying122
  a46 := Tryd.isAgg122
  z46 := Tryd.sizeOf122
  v46 := Tryd.zeroValue122
  t51 := Tryd.underlying166
  a51 := Tryd.isAgg166
  z51 := Tryd.sizeOf166
  v51 := Tryd.zeroValue166
  t53 := Tryd.underlying34
  a53 := Tryd.isAgg34
  z53 := Tryd.sizeOf34
  v53 := Tryd.zeroValue34
  t171 := Tryd.underlying201
  a171 := Tryd.isAgg201
  z171 := Tryd.sizeOf201
  v171 := Tryd.zeroValue201
  t173 := Tryd.underlying203
  a173 := Tryd.isAgg203
  z173 := Tryd.sizeOf203
  v173 := Tryd.zeroValue203
  t212 := Tryd.underlying223
  a212 := Tryd.isAgg223
  z212 := Tryd.sizeOf223
  v212 := Tryd.zeroValue223
  t213 := Tryd.underlying224
  a213 := Tryd.isAgg224
  z213 := Tryd.sizeOf224
  t232 := Tryd.underlying239
  a232 := Tryd.isAgg239
  z232 := Tryd.sizeOf239
  v232 := Tryd.zeroValue239
  t233 := Tryd.underlying195
  a233 := Tryd.isAgg195
  z233 := Tryd.sizeOf195
  v233 := Tryd.zeroValue195
  g17 := by kernel_rfl
  g18 := by kernel_rfl
  g19 := by kernel_rfl
  i0 := by kernel_rfl
  i2 := by kernel_rfl
  i3 := by kernel_rfl
  i4 := by kernel_rfl
  i5 := by kernel_rfl
  i9 := by kernel_rfl
  i20 := by kernel_rfl
  i37 := by kernel_rfl
  i46 := by kernel_rfl
  i51 := by kernel_rfl
  i53 := by kernel_rfl
  i171 := by kernel_rfl
  i173 := by kernel_rfl
  i212 := by kernel_rfl
  i232 := by kernel_rfl
  i233 := by kernel_rfl
  m17 := by kernel_rfl
  m18 := by kernel_rfl
  m19 := by kernel_rfl }
open Go.RowKit Go.Sort Go.Lib in
theorem Tryd.strconv_Itoa (n : Int) (h0 : -9223372036854775808 ≤ n) (h1 : n ≤ 9223372036854775807) (w : World) (htab : Lib.TabIs Tryd.prog w "internal/strconv.uint64pow10" .u64 Lib.pow10Tab) :
    Calls Tryd.prog 79 #[.int .i64 n] w fun e w' => e = .returned (.string ⟨(Lib.itoa n).toArray⟩) ∧ ∃ k os, w' = grow (w.drewN k) os := Any.strconv_Itoa Tryd.laysM171 n h0 h1 w htab
def Tryd.lays7_27_ren : Go.Shelf.Ren := ⟨fun | 27 => 162 | 28 => 174 | 29 => 93 | n => n, fun | 25 => 122 | 3 => 3 | 27 => 166 | 22 => 34 | 4 => 4 | 53 => 239 | 0 => 0 | 5 => 5 | 54 => 195 | n => n, fun | 0 => 5 | 1 => 0 | n => n⟩
theorem Tryd.lays7_27 : Go.Proofs.Lays7.n27 Tryd.prog Tryd.lays7_27_ren := {
  mixed := by kernel_rfl
  f27 := Tryd.func162.trans (congrArg some (by kernel_rfl))
  f28 := Tryd.func174.trans (congrArg some (by kernel_rfl))
  f29 := Tryd.func93.trans (congrArg some (by kernel_rfl))
  t0 := Tryd.underlying0
  a0 := Tryd.isAgg0
  z0 := Tryd.sizeOf0
  v0 := Tryd.zeroValue0
  i0 := by kernel_rfl
  t3 := Tryd.underlying3
  a3 := Tryd.isAgg3
  z3 := Tryd.sizeOf3
  v3 := Tryd.zeroValue3
  i3 := by kernel_rfl
  t4 := Tryd.underlying4
  a4 := Tryd.isAgg4
  z4 := Tryd.sizeOf4
  v4 := Tryd.zeroValue4
  i4 := by kernel_rfl
  t5 := Tryd.underlying5
  a5 := Tryd.isAgg5
  z5 := Tryd.sizeOf5
  v5 := Tryd.zeroValue5
  i5 := by kernel_rfl
  t22 := Tryd.underlying34
  a22 := Tryd.isAgg34
  z22 := Tryd.sizeOf34
  v22 := Tryd.zeroValue34
  i22 := by kernel_rfl
  t25 := Tryd.underlying122
  a25 := Tryd.isAgg122
  z25 := Tryd.sizeOf122
  v25 := Tryd.zeroValue122
  i25 := by kernel_rfl
  t27 := Tryd.underlying166
  a27 := Tryd.isAgg166
  z27 := Tryd.sizeOf166
  v27 := Tryd.zeroValue166
  i27 := by kernel_rfl
  t53 := Tryd.underlying239
  a53 := Tryd.isAgg239
  z53 := Tryd.sizeOf239
  v53 := Tryd.zeroValue239
  i53 := by kernel_rfl
  t54 := Tryd.underlying195
  a54 := Tryd.isAgg195
  z54 := Tryd.sizeOf195
  g0 := by kernel_rfl
  g1 := by kernel_rfl }
end Go.Proofs

namespace Go.Proofs.YtpecpodchkglkaaDoor
open Go.ChangeShapes Go.WideShapes Go.ChangeAt Go.RowKit Go.Sort Go.Lib

/-- The library's two tables read as its text lays them. -/
def Tabs (w : World) : Prop := Lib.TabIs Tryd.prog w "internal/strconv.uint64pow10" .u64 Lib.pow10Tab ∧ TabAt (Tryd.lays7_27_ren.g 1) Lib.deBruijn64tab w
theorem Tabs.below {w w' : World} (h : Tabs w) (hb : Below w.heap.size w w') : Tabs w' := by
  refine ⟨Lib.tabBelow_of_tabIs h.1 w' hb, fun j hj => ?_⟩
  have := h.2 j hj
  refine Eq.trans ?_ this
  exact hb.cell (World.block_lt_of_cell? w _ this)
theorem dec_num (n : Nat) : Lib.decDigits n = numT 10 n := by
  induction n using Nat.strongRecOn with
  | _ n ih =>
    by_cases h : n < 10
    · rw [Lib.decDigits, dif_pos h, numT_small h]
      unfold digB
      rw [if_pos h]
    · rw [Lib.decDigits, dif_neg h, numT_step h (by omega), ih _ (by omega)]
      unfold digB
      rw [if_pos (by omega)]

set_option maxRecDepth 100000 in
set_option maxHeartbeats 1600000 in
theorem fmt10_any (u : Nat) (hu : u < 18446744073709551616) (w : World) (ht : Tabs w) :
    Calls Tryd.prog 107 #[.int .u64 u, .int .i64 10] w fun e w' => e = .returned (.string ⟨(numT 10 u).toArray⟩) ∧ Below w.heap.size w w' := by
  rw [← dec_num]
  by_cases h100 : u < 100
  · have d : decide ((u : Int) < 100) = true := by simp; omega
    go_enter Tryd.func107, Tryd.ntmps107
    go_wp2_with (go_at_call 136; refine (Tryd.internal_strconv_small u h100 _).mono ?_; rintro e w' ⟨rfl, rfl⟩)
    go_ret
    exact ⟨rfl, Below.refl _ _⟩
  · have d : decide ((u : Int) < 100) = false := by simp; omega
    have hu1 : 1 ≤ u := by omega
    have hnd20 : Lib.nDigits u ≤ 20 := by have := Lib.numDigits_eq u hu1 hu; split at this <;> omega
    have hal : Tryd.prog.arrayLen 201 = 24 := by kernel_rfl
    have hH0 : Holds (fun (b : UInt8) => Value.int .u8 (b.toNat : Int)) (w.alloc (.cells Lib.zeros24 201)) w.heap.size 0 (Array.replicate (Lib.nDigits u) (0 : UInt8)) := fun j hj => by
      have hj' : j < Lib.nDigits u := by simpa using hj
      refine ⟨?_, World.frozen?_alloc_new _ _ _ _⟩
      rw [World.cell?_alloc_new, Lib.zeros24_at _ (by omega), getElem!_pos _ j hj]
      simp
    have hfmt := Tryd.internal_strconv_formatBase10 w.heap.size 0 24 u (Array.replicate (Lib.nDigits u) 0) (w.alloc (.cells Lib.zeros24 201)) hH0 (by rw [Array.size_replicate]; exact Lib.lt_pow_nDigits u) hu (by rw [Array.size_replicate]; omega)
    rw [Array.size_replicate] at hfmt
    have hnum := Tryd.internal_strconv_numDigits u hu1 hu (w.alloc (.cells Lib.zeros24 201)) (Lib.tabIs_alloc ht.1 _)
    have HF := Lib.hid hfmt
    have HNM := Lib.hid hnum
    have HH := Lib.hid hH0
    have hsl : ∀ W : World, (Instr.sliceAt 201 (.pointer (some ⟨w.heap.size, 0, none⟩)) none (some (.int .i64 (Lib.nDigits u : Int))) none).run Tryd.prog W = .ok (.slice (some ⟨w.heap.size, 0, none⟩) (Lib.nDigits u) 24) W := fun W => by
      rw [run_sliceAt_array_h W 201 ⟨w.heap.size, 0, none⟩ (by simp [Program.arrayLen, Program.elem, Tryd.underlying201]) .i64 (Lib.nDigits u : Int) (by omega) (by rw [hal]; omega)]
      go_simp
    clear hfmt hnum hH0 hal
    go_enter Tryd.func107, Tryd.ntmps107
    go_wp2_with (go_at_call 137; refine HNM.out.mono ?_; rintro e w' ⟨rfl, rfl⟩)
    refine HF.out.mono ?_
    rintro e w' ⟨rfl, k, v', dk, rfl, hF⟩
    have hcv : (convert 168 9 (.slice (some ⟨w.heap.size, 0, none⟩) (Lib.nDigits u) 24)).run Tryd.prog ((putRow (fun (b : UInt8) => Value.int .u8 (b.toNat : Int)) (w.alloc (.cells Lib.zeros24 201)) w.heap.size 0 dk).drewN k) = .ok (.string ⟨(Lib.decDigits u).toArray⟩) ((putRow (fun (b : UInt8) => Value.int .u8 (b.toNat : Int)) (w.alloc (.cells Lib.zeros24 201)) w.heap.size 0 dk).drewN k) := by
      have h := run_convert_bytes_back (P := Tryd.prog) ((putRow (fun (b : UInt8) => Value.int .u8 (b.toNat : Int)) (w.alloc (.cells Lib.zeros24 201)) w.heap.size 0 dk).drewN k) 168 9 5 ⟨w.heap.size, 0, none⟩ 24 (Lib.decDigits u) Tryd.underlying168 Tryd.underlying5 Tryd.underlying9 (fun j hj => by
        rw [Lib.row_is_numeral hF j hj, Lib.add_plain, World.cell?_drewN]
        exact cell?_putRow (fun (b : UInt8) => Value.int .u8 (b.toNat : Int)) _ w.heap.size 0 _ dk HH.out (by rw [hF.size, Array.size_replicate]) j (by rw [hF.size]; rw [Lib.decDigits_length] at hj; exact hj))
      rw [Lib.decDigits_length] at h
      exact h
    have HB : Hid (Below w.heap.size w ((putRow (fun (b : UInt8) => Value.int .u8 (b.toNat : Int)) (w.alloc (.cells Lib.zeros24 201)) w.heap.size 0 dk).drewN k)) := by
      show Below _ _ _
      refine below_drewN ?_ _
      rw [alloc_eq_grow]
      obtain ⟨os', _, e⟩ := putRow_grow_new (fun (b : UInt8) => Value.int .u8 (b.toNat : Int)) w #[Obj.cells Lib.zeros24 201] w.heap.size 0 dk (Nat.le_refl _)
      rw [e]
      have := below_regrown w w.drawn os'
      exact this
    go_wp2
    go_ret
    exact ⟨rfl, HB.out⟩

theorem hexS_get (d : Nat) (hd : d < 16) (h : d < (⟨#[48, 49, 50, 51, 52, 53, 54, 55, 56, 57, 97, 98, 99, 100, 101, 102, 103, 104, 105, 106, 107, 108, 109, 110, 111, 112, 113, 114, 115, 116, 117, 118, 119, 120, 121, 122]⟩ : ByteArray).size) : (⟨#[48, 49, 50, 51, 52, 53, 54, 55, 56, 57, 97, 98, 99, 100, 101, 102, 103, 104, 105, 106, 107, 108, 109, 110, 111, 112, 113, 114, 115, 116, 117, 118, 119, 120, 121, 122]⟩ : ByteArray)[d]'h = digB d := by
  rcases (by omega : d = 0 ∨ d = 1 ∨ d = 2 ∨ d = 3 ∨ d = 4 ∨ d = 5 ∨ d = 6 ∨ d = 7 ∨ d = 8 ∨ d = 9 ∨ d = 10 ∨ d = 11 ∨ d = 12 ∨ d = 13 ∨ d = 14 ∨ d = 15) with rfl | rfl | rfl | rfl | rfl | rfl | rfl | rfl | rfl | rfl | rfl | rfl | rfl | rfl | rfl | rfl <;> kernel_rfl
theorem dig_index (d : Nat) (hd : d < 16) (W : World) : (Instr.index 9 (.string ⟨#[48, 49, 50, 51, 52, 53, 54, 55, 56, 57, 97, 98, 99, 100, 101, 102, 103, 104, 105, 106, 107, 108, 109, 110, 111, 112, 113, 114, 115, 116, 117, 118, 119, 120, 121, 122]⟩) (.int .u64 (d : Int))).run Tryd.prog W = .ok (.int .u8 ((digB d).toNat : Int)) W := by
  rcases (by omega : d = 0 ∨ d = 1 ∨ d = 2 ∨ d = 3 ∨ d = 4 ∨ d = 5 ∨ d = 6 ∨ d = 7 ∨ d = 8 ∨ d = 9 ∨ d = 10 ∨ d = 11 ∨ d = 12 ∨ d = 13 ∨ d = 14 ∨ d = 15) with rfl | rfl | rfl | rfl | rfl | rfl | rfl | rfl | rfl | rfl | rfl | rfl | rfl | rfl | rfl | rfl <;> kernel_rfl

set_option maxRecDepth 100000 in
set_option maxHeartbeats 1600000 in
theorem bits16_any (u : Nat) (hu : u < 65536) (w : World) (ht : Tabs w) :
    Calls Tryd.prog 139 #[.slice none 0 0, .int .u64 u, .int .i64 16, .bool false, .bool false] w fun e w' => e = .returned (.tuple #[.slice none 0 0, .string ⟨(numT 16 u).toArray⟩]) ∧ Below w.heap.size w w' := by
  have HT := Lib.hid ht
  have CZ : Hid (∀ W : World, Below w.heap.size w W → Calls Tryd.prog 162 #[.int .u64 16] W fun e w' => e = .returned (.int .i64 4) ∧ w' = W) := fun W hb => by
    have h := Any7.bits_TrailingZeros Tryd.lays7_27 16 (by omega) W (fun _ => (ht.below hb).2)
    rw [show Lib.ctz 64 16 = 4 by decide] at h
    exact h
  clear ht
  go_enter Tryd.func139, Tryd.ntmps139
  go_wp2_with (first | (go_at_call 162; refine (CZ.out _ ?hb).mono ?_; (case hb => exact (Below.refl _ _).alloc (Nat.le_refl _) _); rintro e w' ⟨rfl, rfl⟩) | go_in)
  go_loopw [1, 13] (fun uv iv wr => ∃ (cs : Array Value) (L : List UInt8) (x i : Nat), uv = .int .u64 x ∧ iv = .int .i64 i ∧ i + L.length = 65 ∧ L.length ≤ 4 ∧ Hid (x * 16 ^ L.length ≤ u) ∧ Hid (numT 16 u = numT 16 x ++ L) ∧ Hid (cs.size = 65) ∧ Hid (cs.toList.drop i = L.map fun b => Value.int .u8 (b.toNat : Int)) ∧ Hid (Blk wr w.heap.size 224 cs) ∧ Hid (Below w.heap.size w wr)) (fun uv _ _ => (RowKit.intOf uv).toNat)
  case atStart =>
    refine ⟨_, [], u, 65, rfl, rfl, rfl, by simp, (by show _ ≤ _; simp), (by show _ = _; simp), ?_, ?_, Blk.new _ _ _, (Below.refl _ _).alloc (Nat.le_refl _) _⟩
    · show _ = _; rfl
    · show _ = _; rfl
  case round =>
    obtain ⟨cs, L, x, i, rfl, rfl, hiL, hL, hxu, hnum, hcs, hdr, hkb, hbw⟩ := hrel
    obtain ⟨wo, rfl⟩ : ∃ wo : World, wo = wr := ⟨_, rfl⟩
    have hp1 : 1 ≤ 16 ^ L.length := Nat.pow_pos (by omega)
    have hx6 : x < 65536 := by
      have h1 := hxu.out
      have := Nat.le_mul_of_pos_right x hp1
      omega
    have hq := hkb.out.lt
    obtain ⟨v0, hv0⟩ : ∃ v0, cs[i - 1]? = some v0 := ⟨_, Array.getElem?_eq_getElem (by rw [hcs.out]; omega)⟩
    have y0 : wo.cell? ⟨w.heap.size, i - 1, none⟩ = some v0 := by rw [hkb.out.cell]; exact hv0
    have f0 := hkb.out.frozen (i - 1)
    have ei : ((i : Int) - 1) = ((i - 1 : Nat) : Int) := by omega
    have hset : ∀ b : UInt8, ((cs.setIfInBounds (i - 1) (.int .u8 (b.toNat : Int))).toList.drop (i - 1)) = (b :: L).map fun b => Value.int .u8 (b.toNat : Int) := fun b => by
      have hlt : i - 1 < cs.size := by rw [hcs.out]; omega
      rw [Array.toList_setIfInBounds, List.drop_eq_getElem_cons (by simpa using hlt), List.getElem_set_self, List.drop_set_of_lt (by omega), show i - 1 + 1 = i by omega, hdr.out]
      rfl
    have HSET := Lib.hid hset
    clear hset hv0 hp1
    by_cases hx : 16 ≤ x
    · have dx : decide ((16 : Int) ≤ (x : Int)) = true := by simp; omega
      have han : bits .and .u64 (x : Int) 15 = ((x % 16 : Nat) : Int) := by
        rw [show (15 : Int) = ((15 : Nat) : Int) from rfl, u64_and_nat x 15 (by omega) (by omega), show (15 : Nat) = 2 ^ 4 - 1 from rfl, Nat.and_two_pow_sub_one_eq_mod]
      have hdg := dig_index (x % 16) (Nat.mod_lt _ (by omega))
      have hL3 : L.length ≤ 3 := by
        rcases (by omega : L.length ≤ 3 ∨ L.length = 4) with h | h
        · exact h
        · have h1 := hxu.out
          rw [h, show (16 : Nat) ^ 4 = 65536 by decide] at h1
          omega
      go_wp2
      go_roundw
      case rel =>
        refine ⟨_, digB (x % 16) :: L, x / 16, i - 1, by go_num, by go_num, by simp only [List.length_cons]; omega, by simp only [List.length_cons]; omega, ?_, ?_, ?_, HSET.out _, ?_, hbw.out.setCell (Nat.le_refl _) _⟩
        · show _ ≤ _
          rw [List.length_cons, Nat.pow_succ, Nat.mul_comm (16 ^ L.length) 16, ← Nat.mul_assoc]
          exact Nat.le_trans (Nat.mul_le_mul_right _ (Nat.div_mul_le_self x 16)) hxu.out
        · show _ = _
          rw [hnum.out, numT_step (by omega) (by omega), List.append_assoc]
          rfl
        · show _ = _
          rw [Array.size_setIfInBounds]; exact hcs.out
        · show Blk _ _ _ _
          rw [hexS_get (x % 16) (Nat.mod_lt _ (by omega))]
          exact Blk.set_ hkb.out (i - 1) _
      case measure => simp [RowKit.intOf]; omega
    · have dx : decide ((16 : Int) ≤ (x : Int)) = false := by simp; omega
      have hal : Tryd.prog.arrayLen 224 = 65 := by kernel_rfl
      have hi60 : 60 < i := by omega
      have hsl : ∀ W : World, (Instr.sliceAt 224 (.pointer (some ⟨w.heap.size, 0, none⟩)) (some (.int .i64 ((i - 1 : Nat) : Int))) none none).run Tryd.prog W = .ok (.slice (some ⟨w.heap.size, i - 1, none⟩) (L.length + 1) (L.length + 1)) W := fun W => by
        rw [run_sliceAt_array_l W 224 ⟨w.heap.size, 0, none⟩ (by simp [Program.arrayLen, Program.elem, Tryd.underlying224]) .i64 ((i - 1 : Nat) : Int) (by omega) (by rw [hal]; omega)]
        go_simp
        exact ⟨by omega, by omega⟩
      have hx36 : x < (⟨#[48, 49, 50, 51, 52, 53, 54, 55, 56, 57, 97, 98, 99, 100, 101, 102, 103, 104, 105, 106, 107, 108, 109, 110, 111, 112, 113, 114, 115, 116, 117, 118, 119, 120, 121, 122]⟩ : ByteArray).size := by show x < 36; omega
      have hnu : numT 16 u = digB x :: L := by rw [hnum.out, numT_small (by omega)]; rfl
      have hks := Blk.set_ hkb.out (i - 1) (.int .u8 ((digB x).toNat : Int))
      have hcv : (convert 168 9 (.slice (some ⟨w.heap.size, i - 1, none⟩) (L.length + 1) (L.length + 1))).run Tryd.prog (wo.setCell ⟨w.heap.size, i - 1, none⟩ (.int .u8 (((⟨#[48, 49, 50, 51, 52, 53, 54, 55, 56, 57, 97, 98, 99, 100, 101, 102, 103, 104, 105, 106, 107, 108, 109, 110, 111, 112, 113, 114, 115, 116, 117, 118, 119, 120, 121, 122]⟩ : ByteArray)[x]'hx36).toNat : Int))) = .ok (.string ⟨(numT 16 u).toArray⟩) (wo.setCell ⟨w.heap.size, i - 1, none⟩ (.int .u8 (((⟨#[48, 49, 50, 51, 52, 53, 54, 55, 56, 57, 97, 98, 99, 100, 101, 102, 103, 104, 105, 106, 107, 108, 109, 110, 111, 112, 113, 114, 115, 116, 117, 118, 119, 120, 121, 122]⟩ : ByteArray)[x]'hx36).toNat : Int))) := by
        rw [hexS_get x (by omega) hx36, hnu]
        have h := run_convert_bytes_back (P := Tryd.prog) (wo.setCell ⟨w.heap.size, i - 1, none⟩ (.int .u8 ((digB x).toNat : Int))) 168 9 5 ⟨w.heap.size, i - 1, none⟩ (L.length + 1) (digB x :: L) Tryd.underlying168 Tryd.underlying5 Tryd.underlying9 (fun j hj => by
          rw [Lib.add_plain, hks.cell (i - 1 + j)]
          have h2 := HSET.out (digB x)
          have h3 : ((cs.setIfInBounds (i - 1) (.int .u8 ((digB x).toNat : Int))).toList.drop (i - 1))[j]? = ((digB x :: L).map fun b => Value.int .u8 (b.toNat : Int))[j]? := by rw [h2]
          rw [List.getElem?_drop, Array.getElem?_toList, List.getElem?_map, List.getElem?_eq_getElem hj] at h3
          exact h3)
        exact h
      have HB9 : Hid (Below w.heap.size w (wo.setCell ⟨w.heap.size, i - 1, none⟩ (.int .u8 (((⟨#[48, 49, 50, 51, 52, 53, 54, 55, 56, 57, 97, 98, 99, 100, 101, 102, 103, 104, 105, 106, 107, 108, 109, 110, 111, 112, 113, 114, 115, 116, 117, 118, 119, 120, 121, 122]⟩ : ByteArray)[x]'hx36).toNat : Int)))) := hbw.out.setCell (Nat.le_refl _) _
      clear hnu hks
      go_wp2
      go_ret2
      exact ⟨rfl, HB9.out⟩

set_option maxRecDepth 100000 in
theorem fmt16_any (u : Nat) (hu : u < 65536) (w : World) (ht : Tabs w) :
    Calls Tryd.prog 107 #[.int .u64 u, .int .i64 16] w fun e w' => e = .returned (.string ⟨(numT 16 u).toArray⟩) ∧ Below w.heap.size w w' := by
  have C := Lib.hid (bits16_any u hu w ht)
  clear ht
  go_enter Tryd.func107, Tryd.ntmps107
  go_wp2_with fail
  refine C.out.mono ?_
  rintro e w1 ⟨rfl, hb⟩
  have HB := Lib.hid hb
  clear hb
  go_wp2
  go_ret
  exact ⟨rfl, HB.out⟩
/-- strconv.FormatUint at base 10 and at base 16. -/
theorem format_any (base u : Nat) (hb : base = 10 ∨ base = 16) (hu : u < 65536) (w : World) (ht : Tabs w) :
    Calls Tryd.prog 70 #[.int .u64 u, .int .i64 base] w fun e w' => e = .returned (.string ⟨(numT base u).toArray⟩) ∧ Below w.heap.size w w' := by
  have C : Hid (Calls Tryd.prog 107 #[.int .u64 u, .int .i64 base] w fun e w' => e = .returned (.string ⟨(numT base u).toArray⟩) ∧ Below w.heap.size w w') := by
    rcases hb with rfl | rfl
    · exact fmt10_any u (by omega) w ht
    · exact fmt16_any u hu w ht
  clear ht hb
  go_enter Tryd.func70, Tryd.ntmps70
  go_wp2_with fail
  refine C.out.mono ?_
  rintro e w1 ⟨rfl, hb⟩
  have HB := Lib.hid hb
  clear hb
  go_wp2
  go_ret
  exact ⟨rfl, HB.out⟩

end Go.Proofs.YtpecpodchkglkaaDoor

namespace Go.Proofs.YtpecpodchkglkaaDoor
open Go.ChangeShapes Go.WideShapes Go.ChangeAt Go.RowKit Go.Lib

theorem laid_one {L : List (String × DataW Unit)} {w : World} (h : laidMetH Tryd.prog L w) (name : String) (d : DataW Unit) (hf : L.filter (fun x => x.1 == name) = [(name, d)]) (hh : d.handleName?.isNone = true) : laidMet Tryd.prog [(name, d)] w := by
  have := h.filter (fun x => x.1 == name)
  rw [hf, MakeChecks.laidMetH_plain Tryd.prog [(name, d)] w (by simp [hh])] at this
  exact this
theorem tabs_of_laid {L : List (String × DataW Unit)} {w : World} (h : laidMetH Tryd.prog L w)
    (h1 : L.filter (fun x => x.1 == "internal/strconv.uint64pow10") = [("internal/strconv.uint64pow10", Rows.laid_internal_strconv_uint64pow10)])
    (h2 : L.filter (fun x => x.1 == "math/bits.deBruijn64tab") = [("math/bits.deBruijn64tab", Rows.laid_math_bits_deBruijn64tab)]) : Tabs w := by
  constructor
  · have := laid_one h _ _ h1 rfl
    rw [show (Rows.laid_internal_strconv_uint64pow10 : DataW Unit) = tabData .u64 Lib.pow10Tab from rfl] at this
    exact tabIs_of_head (g := (Tryd.prog.globalNamed "internal/strconv.uint64pow10").getD 0) (t := 223) (e := 34) (n := 20) (by kernel_rfl) (by kernel_rfl) Tryd.underlying223 Tryd.underlying34 (by kernel_rfl) (by kernel_rfl) this
  · have := laid_one h _ _ h2 rfl
    rw [show (Rows.laid_math_bits_deBruijn64tab : DataW Unit) = tabData .u8 (Lib.deBruijn64tab.map fun n : Nat => (n : Int)) from rfl] at this
    have ht := tabIs_of_head (g := Tryd.lays7_27_ren.g 1) (t := 195) (e := 5) (n := 64) (by kernel_rfl) (by kernel_rfl) Tryd.underlying195 Tryd.underlying5 (by kernel_rfl) (by kernel_rfl) this
    intro j hj
    have hc := ht.cell (g := Tryd.lays7_27_ren.g 1) (by kernel_rfl) j (by simpa using hj)
    rw [hc]
    simp [List.getD, hj]

end Go.Proofs.YtpecpodchkglkaaDoor

namespace Go.Proofs.YtpecpodchkglkaaDoor
open Go.ChangeShapes Go.WideShapes Go.ChangeAt Go.RowKit

/-- The eight groups of an address of 128 bits. -/
def gps (hi lo : Int) : List Int := [hi / 281474976710656 % 65536, hi / 4294967296 % 65536, hi / 65536 % 65536, hi % 65536, lo / 281474976710656 % 65536, lo / 4294967296 % 65536, lo / 65536 % 65536, lo % 65536]
theorem and_low16 (z : Int) (h0 : 0 ≤ z) (h1 : z < 18446744073709551616) : bits .and .u64 z 65535 = z % 65536 := by go_bits2
theorem gps_eq (hi lo : Int) (h1 : 0 ≤ hi ∧ hi < 18446744073709551616) (h2 : 0 ≤ lo ∧ lo < 18446744073709551616) : gps hi lo = groups (⟨true, hi, lo⟩ : AV).v 128 16 128 := by
  obtain ⟨h, rfl⟩ : ∃ h : Nat, hi = h := ⟨hi.toNat, by omega⟩
  obtain ⟨l, rfl⟩ : ∃ l : Nat, lo = l := ⟨lo.toNat, by omega⟩
  rw [six_v]
  unfold groups
  rw [show (128 + 16 - 1) / 16 = 8 by decide]
  simp only [List.range_succ, List.range_zero, List.nil_append, List.map_cons, List.map_nil, List.cons_append]
  unfold gps gv
  simp only [List.cons.injEq, and_true]
  refine ⟨?_, ?_, ?_, ?_, ?_, ?_, ?_, ?_⟩ <;> (simp only [Nat.reduceMul, Nat.reduceAdd, Nat.reduceSub, show min 16 128 = 16 from rfl, show min 32 128 = 32 from rfl, show min 48 128 = 48 from rfl, show min 64 128 = 64 from rfl, show min 80 128 = 80 from rfl, show min 96 128 = 96 from rfl, show min 112 128 = 112 from rfl, show min 128 128 = 128 from rfl, Nat.reducePow, Nat.pow_zero, Nat.zero_add, Nat.mul_zero, Nat.sub_zero]; omega)
theorem gps_len (hi lo : Int) : (gps hi lo).length = 8 := rfl
theorem gps_lt (hi lo : Int) (_h1 : 0 ≤ hi) (_h2 : 0 ≤ lo) : ∀ x ∈ gps hi lo, 0 ≤ x ∧ x < 65536 := by
  intro x hx
  simp only [gps, List.mem_cons, List.not_mem_nil, or_false] at hx
  rcases hx with rfl | rfl | rfl | rfl | rfl | rfl | rfl | rfl <;> omega
set_option maxRecDepth 100000 in
set_option maxHeartbeats 1600000 in
theorem groups_any (six : Bool) (hi lo : Int) (w : World) (h1 : 0 ≤ hi ∧ hi < 18446744073709551616) (h2 : 0 ≤ lo ∧ lo < 18446744073709551616) :
    Calls Tryd.prog 72 #[.agg #[.bool six, .int .u64 hi, .int .u64 lo]] w fun e w' => e = .returned (.agg ((gps hi lo).map (Value.int .u64)).toArray) ∧ Below w.heap.size w w' := by
  go_enter Tryd.func72, Tryd.ntmps72
  go_wp2
  refine wp_loop_rounds 5 ?_
  rw [rounds_succ]
  go_wp2
  go_region
  go_wp2
  rw [rounds_succ]
  go_wp2
  go_region
  go_wp2
  rw [rounds_succ]
  go_wp2
  go_region
  go_wp2
  rw [rounds_succ]
  go_wp2
  go_region
  go_wp2
  rw [rounds_succ]
  go_wp2
  refine bodyPost_ret (v := .agg ((gps hi lo).map (Value.int .u64)).toArray) ?_ rfl ⟨rfl, ?_⟩
  · simp [results, Tryd.results72, go_sem, gps]
    refine ⟨?_, ?_, ?_, ?_, ?_, ?_, ?_, ?_⟩ <;> exact and_low16 _ (by omega) (by omega)
  · exact (((((((Below.refl _ _).alloc (Nat.le_refl _) _).alloc (by simp) _).alloc (by simp; omega) _).drew).drew).drew).drew

end Go.Proofs.YtpecpodchkglkaaDoor

namespace Go.Proofs.YtpecpodchkglkaaDoor
open Go.ChangeShapes Go.WideShapes Go.ChangeAt Go.RowKit

theorem takeWhile_step (p : Int → Bool) : ∀ (l : List Int) (k : Nat), k ≤ (l.takeWhile p).length → ∀ x, l[k]? = some x → (p x = true → k + 1 ≤ (l.takeWhile p).length) ∧ (p x = false → (l.takeWhile p).length = k)
  | [], _, _, _, hx => by simp at hx
  | y :: l, 0, _, x, hx => by
    simp at hx; subst hx
    constructor
    · intro h; rw [List.takeWhile_cons, if_pos h]; simp
    · intro h; rw [List.takeWhile_cons, if_neg (by simp [h])]; rfl
  | y :: l, k + 1, hk, x, hx => by
    by_cases h : p y = true
    · rw [List.takeWhile_cons, if_pos h] at hk ⊢
      have := takeWhile_step p l k (by simpa using hk) x (by simpa using hx)
      simpa using this
    · rw [List.takeWhile_cons, if_neg h] at hk; simp at hk
theorem zerosAt_step {g : List Int} {i k : Nat} (hk : k ≤ zerosAt g i) {x : Int} (hx : g[i + k]? = some x) : (x = 0 → k + 1 ≤ zerosAt g i) ∧ (¬ x = 0 → zerosAt g i = k) := by
  have := takeWhile_step (· == 0) (g.drop i) k hk x (by rw [List.getElem?_drop]; exact hx)
  refine ⟨fun h => this.1 (by simp [h]), fun h => this.2 (by simp [h])⟩
theorem zerosAt_end {g : List Int} {i k : Nat} (hk : k ≤ zerosAt g i) (h : g.length ≤ i + k) : zerosAt g i = k := by
  have := zerosAt_le g i
  omega
theorem runP_le (g : List Int) : ∀ i, i ≤ g.length → (runP g i).1 + (runP g i).2 ≤ g.length
  | 0, _ => by simp [runP]
  | i + 1, h => by
    have := runP_le g i (by omega)
    have := zerosAt_le g i
    unfold runP
    split
    · show i + zerosAt g i ≤ _; omega
    · omega

set_option maxRecDepth 100000 in
set_option maxHeartbeats 1600000 in
theorem run_any (g : List Int) (hg : g.length = 8) (w : World) :
    Calls Tryd.prog 73 #[.agg ((g.map (Value.int .u64)).toArray)] w fun e w' => e = .returned (.tuple #[.int .i64 (if (runP g 8).2 < 2 then 0 else ((runP g 8).1 : Int)), .int .i64 (if (runP g 8).2 < 2 then 0 else ((runP g 8).2 : Int))]) ∧ Below w.heap.size w w' := by
  match g, hg with
  | [g0, g1, g2, g3, g4, g5, g6, g7], _ =>
  obtain ⟨g, hG⟩ : ∃ g, g = [g0, g1, g2, g3, g4, g5, g6, g7] := ⟨_, rfl⟩
  rw [← hG]
  have HL : Hid (g.length = 8) := by rw [hG]; exact rfl
  have HC : Hid (∀ j x, g[j]? = some x → (w.alloc (Obj.cells #[.int .u64 g0, .int .u64 g1, .int .u64 g2, .int .u64 g3, .int .u64 g4, .int .u64 g5, .int .u64 g6, .int .u64 g7] 127)).cell? ⟨w.heap.size, j, none⟩ = some (.int .u64 x)) := by
    intro j x hj
    rw [hG] at hj
    match j, hj with
    | 0, hj => simp at hj; subst hj; simp [World.cell?_alloc_new]
    | 1, hj => simp at hj; subst hj; simp [World.cell?_alloc_new]
    | 2, hj => simp at hj; subst hj; simp [World.cell?_alloc_new]
    | 3, hj => simp at hj; subst hj; simp [World.cell?_alloc_new]
    | 4, hj => simp at hj; subst hj; simp [World.cell?_alloc_new]
    | 5, hj => simp at hj; subst hj; simp [World.cell?_alloc_new]
    | 6, hj => simp at hj; subst hj; simp [World.cell?_alloc_new]
    | 7, hj => simp at hj; subst hj; simp [World.cell?_alloc_new]
    | _ + 8, hj => simp at hj
  have HG := Lib.hid hG
  have HBE : Hid (Below w.heap.size w (w.alloc (Obj.cells #[.int .u64 g0, .int .u64 g1, .int .u64 g2, .int .u64 g3, .int .u64 g4, .int .u64 g5, .int .u64 g6, .int .u64 g7] 127))) := (Below.refl _ _).alloc (Nat.le_refl _) _
  rw [hG]
  simp only [List.map_cons, List.map_nil]
  rw [← hG]
  clear hG
  obtain ⟨rF, hrF⟩ : ∃ rF : Int, (if (runP g 8).2 < 2 then 0 else ((runP g 8).1 : Int)) = rF := ⟨_, rfl⟩
  obtain ⟨rM, hrM⟩ : ∃ rM : Int, (if (runP g 8).2 < 2 then 0 else ((runP g 8).2 : Int)) = rM := ⟨_, rfl⟩
  rw [hrF, hrM]
  have HrF := Lib.hid hrF
  have HrM := Lib.hid hrM
  clear hrF hrM
  go_enter Tryd.func73, Tryd.ntmps73
  go_wp2
  obtain ⟨wo, hwo⟩ : ∃ wo, wo = w.alloc (Obj.cells #[.int .u64 g0, .int .u64 g1, .int .u64 g2, .int .u64 g3, .int .u64 g4, .int .u64 g5, .int .u64 g6, .int .u64 g7] 127) := ⟨_, rfl⟩
  rw [← hwo]
  rw [← hwo] at HC HBE
  clear hwo
  go_loopw [6, 4, 5] (fun i f m wr => ∃ k : Nat, k ≤ 8 ∧ i = .int .i64 k ∧ f = .int .i64 (runP g k).1 ∧ m = .int .i64 (runP g k).2 ∧ wr = wo) (fun i _ _ _ => 8 - (RowKit.intOf i).toNat)
  case atStart => exact ⟨0, by omega, rfl, rfl, rfl, rfl⟩
  case round =>
    obtain ⟨k, hk, rfl, hf, hm, rfl⟩ := hrel
    have HRL := Lib.hid (runP_le g k (by rw [HL.out]; omega))
    have HST : Hid (runP g (k + 1) = if (runP g k).2 < zerosAt g k then (k, zerosAt g k) else runP g k) := Lib.hid rfl
    obtain ⟨FM, hFM⟩ : ∃ FM, runP g k = FM := ⟨_, rfl⟩
    rw [hFM] at HST HRL hf hm
    have HFM := Lib.hid hFM
    obtain ⟨F, M⟩ := FM
    simp only at hf hm HRL HST
    subst hf hm
    have hml : F + M ≤ 8 := by have := HRL.out; rwa [HL.out] at this
    clear hFM
    by_cases hlt : k < 8
    · have hzl : zerosAt g k ≤ 8 - k := by have := zerosAt_le g k; rwa [HL.out] at this
      obtain ⟨Z, hZ⟩ : ∃ Z, zerosAt g k = Z := ⟨_, rfl⟩
      have HZ := Lib.hid hZ
      rw [hZ] at HST hzl
      clear hZ
      have dk : decide ((k : Int) < 8) = true := by simp; omega
      go_wp2
      go_loopw [7] (fun i wr2 => ∃ j : Nat, j ≤ Z ∧ i = .int .i64 j ∧ wr2 = wr) (fun i _ => 8 - (RowKit.intOf i).toNat)
      case atStart => exact ⟨0, by omega, rfl, rfl⟩
      case round =>
        obtain ⟨j, hj, rfl, rfl⟩ := hrel
        have wkj : IntKind.i64.wrap ((k : Int) + (j : Int)) = ((k + j : Nat) : Int) := by rw [IntWalk.i64_in _ (by omega)]; omega
        by_cases hin : k + j < 8 ∧ g[k + j]? = some 0
        · obtain ⟨hin, hx⟩ := hin
          have hj1 := (zerosAt_step (by rw [HZ.out]; exact hj) hx).1 rfl
          rw [HZ.out] at hj1
          have hcx := HC.out (k + j) 0 hx
          have d1 : decide (((k + j : Nat) : Int) < 8) = true := by simp; omega
          have n0 : (0 : Int) ≤ ((k + j : Nat) : Int) := by omega
          have n1 : ((k + j : Nat) : Int) < 8 := by omega
          have n2 : ((k + j : Nat) : Int).toNat = k + j := by omega
          clear hx
          go_wp2
          go_roundw
          case rel => exact ⟨j + 1, hj1, by go_num, by first | rfl | trivial⟩
          case measure => simp [RowKit.intOf]; omega
        · have HZJ : Hid (Z = j) := by
            show _ = _
            rw [← HZ.out]
            by_cases h8 : k + j < 8
            · obtain ⟨x, hx⟩ : ∃ x, g[k + j]? = some x := ⟨_, List.getElem?_eq_getElem (by rw [HL.out]; omega)⟩
              refine (zerosAt_step (by rw [HZ.out]; exact hj) hx).2 fun h0 => hin ⟨h8, by rw [hx, h0]⟩
            · exact zerosAt_end (by rw [HZ.out]; exact hj) (by rw [HL.out]; omega)
          have HST2 : Hid (runP g (k + 1) = if M < j then (k, j) else (F, M)) := by show _ = _; rw [HST.out, HZJ.out]
          have HK : Hid (∀ F' M' : Nat, runP g (k + 1) = (F', M') → ∃ k_1 : Nat, k_1 ≤ 8 ∧ Value.int .i64 ((k : Int) + 1) = .int .i64 k_1 ∧ Value.int .i64 (F' : Int) = .int .i64 (runP g k_1).1 ∧ Value.int .i64 (M' : Int) = .int .i64 (runP g k_1).2 ∧ True) := fun F' M' h => ⟨k + 1, by omega, by go_num, by rw [h], by rw [h], trivial⟩
          have HMM : Hid (8 - (RowKit.intOf (Value.int .i64 ((k : Int) + 1))).toNat < 8 - (RowKit.intOf (Value.int .i64 (k : Int))).toNat) := by show _ < _; simp [RowKit.intOf]; omega
          clear HST HZ
          by_cases hM : M < j
          · have HST3 : Hid (runP g (k + 1) = (k, j)) := by show _ = _; rw [HST2.out, if_pos hM]
            have dM : decide ((M : Int) < (j : Int)) = true := by simpa using hM
            by_cases h8 : k + j < 8
            · obtain ⟨x, hx⟩ : ∃ x, g[k + j]? = some x := ⟨_, List.getElem?_eq_getElem (by rw [HL.out]; omega)⟩
              have dx : (x == 0) = false := by simp; exact fun h0 => hin ⟨h8, by rw [hx, h0]⟩
              have dx2 : ¬ x = 0 := by simpa using dx
              have hcx := HC.out (k + j) x hx
              have d1 : decide (((k + j : Nat) : Int) < 8) = true := by simp; omega
              have n0 : (0 : Int) ≤ ((k + j : Nat) : Int) := by omega
              have n1 : ((k + j : Nat) : Int) < 8 := by omega
              have n2 : ((k + j : Nat) : Int).toNat = k + j := by omega
              clear hx hin HZJ HST2
              go_wp2
              exact ⟨HK.out _ _ HST3.out, HMM.out⟩
            · have d1 : decide (((k + j : Nat) : Int) < 8) = false := by simp; omega
              clear hin HZJ HST2
              go_wp2
              exact ⟨HK.out _ _ HST3.out, HMM.out⟩
          · have HST3 : Hid (runP g (k + 1) = (F, M)) := by show _ = _; rw [HST2.out, if_neg hM]
            have dM : decide ((M : Int) < (j : Int)) = false := by simpa using hM
            by_cases h8 : k + j < 8
            · obtain ⟨x, hx⟩ : ∃ x, g[k + j]? = some x := ⟨_, List.getElem?_eq_getElem (by rw [HL.out]; omega)⟩
              have dx : (x == 0) = false := by simp; exact fun h0 => hin ⟨h8, by rw [hx, h0]⟩
              have dx2 : ¬ x = 0 := by simpa using dx
              have hcx := HC.out (k + j) x hx
              have d1 : decide (((k + j : Nat) : Int) < 8) = true := by simp; omega
              have n0 : (0 : Int) ≤ ((k + j : Nat) : Int) := by omega
              have n1 : ((k + j : Nat) : Int) < 8 := by omega
              have n2 : ((k + j : Nat) : Int).toNat = k + j := by omega
              clear hx hin HZJ HST2
              go_wp2
              exact ⟨HK.out _ _ HST3.out, HMM.out⟩
            · have d1 : decide (((k + j : Nat) : Int) < 8) = false := by simp; omega
              clear hin HZJ HST2
              go_wp2
              exact ⟨HK.out _ _ HST3.out, HMM.out⟩
    · obtain rfl : k = 8 := by omega
      have e1 := HrF.out
      have e2 := HrM.out
      rw [HFM.out] at e1 e2
      simp only at e1 e2
      by_cases hM : M < 2
      · have d1 : decide ((M : Int) < 2) = true := by simp; omega
        rw [if_pos hM] at e1 e2
        subst e1 e2
        clear hM
        go_wp2
        refine bodyPost_ret (v := .tuple #[.int .i64 0, .int .i64 0]) ?_ rfl ⟨rfl, HBE.out⟩
        simp [results, Tryd.results73, go_sem]
      · have d1 : decide ((M : Int) < 2) = false := by simp; omega
        rw [if_neg hM] at e1 e2
        subst e1 e2
        clear hM
        go_wp2
        refine bodyPost_ret (v := .tuple #[.int .i64 F, .int .i64 M]) ?_ rfl ⟨rfl, HBE.out⟩
        simp [results, Tryd.results73, go_sem]

end Go.Proofs.YtpecpodchkglkaaDoor

namespace Go.Proofs.YtpecpodchkglkaaDoor
open Go.ChangeShapes Go.WideShapes Go.ChangeAt Go.RowKit

theorem infoStr : (Tryd.prog.info? 9).map (fun i => (i.zero, i.size, i.bytes)) = some (some (.string ⟨#[]⟩), 1, 16) := by kernel_rfl
def strV (l : List UInt8) : Value := .string ⟨l.toArray⟩
theorem join_tail (s : UInt8) : ∀ (x : List UInt8) (l : List (List UInt8)), joinT s (x :: l) = x ++ Lib.joinTail [s] l
  | x, [] => by simp [joinT, Lib.joinTail]
  | x, y :: l => by
    show x ++ [s] ++ joinT s (y :: l) = _
    rw [join_tail s y l]
    simp [Lib.joinTail]
theorem join_eq (s : UInt8) (l : List (List UInt8)) : Lib.join l [s] = joinT s l := by
  cases l with
  | nil => rfl
  | cons x l => rw [Lib.join_cons, join_tail]
theorem joinT_len (s : UInt8) (k : Nat) : ∀ (l : List (List UInt8)), (∀ x ∈ l, x.length ≤ k) → (joinT s l).length ≤ (k + 1) * l.length
  | [], _ => by simp [joinT]
  | [x], h => by have := h x (by simp); simp [joinT]; omega
  | x :: y :: l, h => by
    have h1 := h x (by simp)
    have h2 := joinT_len s k (y :: l) (fun z hz => h z (by simp at hz ⊢; right; exact hz))
    show (x ++ [s] ++ joinT s (y :: l)).length ≤ _
    rw [List.length_append, List.length_append, List.length_cons (a := x), Nat.mul_succ]
    simp only [List.length_cons, List.length_nil] at h2 ⊢
    omega
/-- strings.Join of a row of strings of the call's own. -/
theorem join_own {w : World} {base n : Nat} {v : Value} {l : List (List UInt8)} (s : UInt8) (h : w.ownsRow base 9 1 v n (l.map strV)) (hl : ∀ x ∈ l, x.length ≤ 100) (hn : l.length ≤ 100) :
    Calls Tryd.prog 71 #[v, .string ⟨#[s]⟩] w fun e w' => e = .returned (.string ⟨(joinT s l).toArray⟩) ∧ Below w.heap.size w w' := by
  have hlen : l.length = n := by have := h.1; simpa using this
  rcases h.2 with ⟨rfl, h0⟩ | ⟨g, cap, cur, rfl, hb, hh, hc, hm, hs, ht⟩
  · have : l = [] := by
      have : n = 0 := h0
      exact List.eq_nil_of_length_eq_zero (by omega)
    subst this
    refine (Tryd.strings_Join_none none 0 ⟨#[s]⟩ w).mono ?_
    rintro e w' ⟨rfl, rfl⟩
    exact ⟨rfl, Below.refl _ _⟩
  · have hx : (l.map fun x => (⟨x.toArray⟩ : ByteArray)).length = n := by rw [List.length_map]; exact hlen
    have hmap : (l.map fun x => (⟨x.toArray⟩ : ByteArray)).map (·.data.toList) = l := by rw [List.map_map]; simp [Function.comp_def]
    have hj := Tryd.strings_Join g 0 cap (l.map fun x => (⟨x.toArray⟩ : ByteArray)) ⟨#[s]⟩ w (fun j x hj => by
      rw [List.getElem?_map] at hj
      cases hl2 : l[j]? with
      | none => rw [hl2] at hj; cases hj
      | some y =>
        rw [hl2] at hj
        injection hj with hj
        subst hj
        have hjn : j < n := by have := (List.getElem?_eq_some_iff.1 hl2).1; omega
        have h2 : (cur.toList.take (n * 1))[j]? = (l.map strV)[j]? := by rw [ht]
        rw [List.getElem?_take_of_lt (by omega), List.getElem?_map, hl2, Array.getElem?_toList] at h2
        rw [Nat.zero_add, cell_of_row w g j cur _ (0, 0) hh, h2]
        rfl) (Array.getElem?_eq_some_iff.1 hh).1 (by rw [hx]; omega) (by rw [hx]; exact hc) (by
      rw [hmap]
      have e := join_eq s l
      have := joinT_len s 100 l hl
      rw [show (⟨#[s]⟩ : ByteArray).data.toList = [s] from rfl, e]
      have : 101 * l.length ≤ 101 * 100 := Nat.mul_le_mul_left _ hn
      omega)
    rw [hx, hmap, show (⟨#[s]⟩ : ByteArray).data.toList = [s] from rfl, join_eq] at hj
    exact hj

theorem num16_len (n : Nat) (h : n < 65536) : (numT 16 n).length ≤ 4 := by
  have := numT_length 16 (by omega) 4 n (by rw [show (16 : Nat) ^ 4 = 65536 by decide]; exact h)
  simpa using this
set_option maxRecDepth 100000 in
set_option maxHeartbeats 1600000 in
theorem hex_any {w : World} {n c : Nat} {A : Option Addr} {g : List Int} (hz : g.length = n) (hn : n ≤ 8) (hg : ∀ x ∈ g, 0 ≤ x ∧ x < 65536) (hr : Reads w w.heap.size 1 A n (g.map (Value.int .u64))) (ht : Tabs w) :
    Calls Tryd.prog 74 #[.slice A n c] w fun e w' => e = .returned (.string ⟨(hexT g).toArray⟩) ∧ Below w.heap.size w w' := by
  have HZ := Lib.hid hz
  have HG := Lib.hid hg
  have HR := Lib.hid hr
  have CF := Lib.hid (fun (u : Nat) (hu : u < 65536) (W : World) (hb : Below w.heap.size w W) => format_any 16 u (.inr rfl) hu W (ht.below hb))
  clear hz hg hr ht
  go_enter Tryd.func74, Tryd.ntmps74
  go_wp2
  go_loopw [8, 3] (fun i v wr => ∃ j : Nat, j ≤ n ∧ i = .int .i64 j ∧ Hid (wr.ownsRow w.heap.size 9 1 v j ((g.take j).map fun x => strV (numT 16 x.toNat))) ∧ Hid (Below w.heap.size w wr)) (fun i _ _ => n - (RowKit.intOf i).toNat)
  case atStart => exact ⟨0, by omega, rfl, World.ownsRow_nil _ _ _ _, Below.refl _ _⟩
  case round =>
    obtain ⟨j, hj, rfl, hrow, hb⟩ := hrel
    obtain ⟨wo, rfl⟩ : ∃ wo : World, wo = wr := ⟨_, rfl⟩
    have hs := hb.out.size
    by_cases hlt : j < n
    · obtain ⟨ad, x, rfl, hx, htk, -, hm⟩ := HR.out.at1 hlt
      have hbl : ad.block < w.heap.size := by
        obtain ⟨ad', e1, hb', _⟩ := HR.out.2 (by omega)
        injection e1 with e1
        rw [e1]; exact hb'
      have q0 := (hb.out.cell (p := ad.add j) (by rw [block_of_add]; exact hbl)).trans hx
      have hxr := HG.out x hm
      obtain ⟨u, rfl⟩ : ∃ u : Nat, x = u := ⟨x.toNat, by omega⟩
      have CC := Lib.hid (CF.out u (by omega) wo hb.out)
      have HTK : Hid ((g.take (j + 1)).map (fun x => strV (numT 16 x.toNat)) = (g.take j).map (fun x => strV (numT 16 x.toNat)) ++ [strV (numT 16 u)]) := by show _ = _; rw [htk, List.map_append]; rfl
      clear htk hm hx
      go_wp2_with fail
      refine CC.out.mono ?_
      rintro e w4 ⟨rfl, hb4⟩
      have HO4 := Lib.hid (own_below hrow.out hb4)
      have HB4 := Lib.hid (below_step hb.out hb4)
      have hs4 : w.heap.size ≤ w4.heap.size := by have := hb4.size; omega
      clear hb4 CC
      simp only
      go_wp2_with (at_builtin; go_loud (refine wpList_append_oneN (us := [strV (numT 16 u)]) rfl _ _ 124 rfl w.heap.size _ 1 16 Tryd.underlying124 infoStr rfl (by decide) _ _ _ rfl rfl rfl HO4.out hs4 rfl (by intro u hu; simp at hu; subst hu; rfl) (by unfold maxLen; omega) (by omega) ?_))
      intro v5 w5 hown5 hb5 hs5 hk5
      have HO5 : Hid (w5.ownsRow w.heap.size 9 1 v5 (j + 1) ((g.take (j + 1)).map fun x => strV (numT 16 x.toNat))) := by
        show World.ownsRow _ _ _ _ _ _ _
        rw [HTK.out]
        simpa only [List.map_take] using hown5
      have HB5 := Lib.hid (HB4.out.trans hb5)
      clear hown5 hb5 hk5
      go_wp2
      go_roundw
      case rel => exact ⟨j + 1, by omega, by go_num, HO5.out, HB5.out⟩
      case measure => simp [RowKit.intOf]; omega
    · obtain rfl : j = n := by omega
      have e0 : g.take j = g := List.take_of_length_le (by rw [HZ.out]; exact Nat.le_refl _)
      have hrow2 := hrow.out
      rw [e0] at hrow2
      have CJ := join_own (l := g.map fun x => numT 16 x.toNat) 58 (by rw [List.map_map]; exact hrow2) (fun x hx => by
        obtain ⟨y, hy, rfl⟩ := List.mem_map.1 hx
        have h1 := HG.out y hy
        have := num16_len y.toNat (by omega)
        omega) (by rw [List.length_map, HZ.out]; omega)
      have HCJ := Lib.hid CJ
      clear CJ hrow2 hrow e0
      go_wp2_with fail
      refine HCJ.out.mono ?_
      rintro e w6 ⟨rfl, hb6⟩
      have HB6 := Lib.hid (below_step hb.out hb6)
      clear hb6
      go_wp2
      go_ret
      exact ⟨rfl, HB6.out⟩

end Go.Proofs.YtpecpodchkglkaaDoor

namespace Go.Proofs.YtpecpodchkglkaaDoor
open Go.ChangeShapes Go.WideShapes Go.ChangeAt Go.RowKit

def octs4 (a : AV) : List Int := (List.range 4).map fun i => (octN a i : Int)
theorem and_low8 (z : Int) (h0 : 0 ≤ z) (h1 : z < 18446744073709551616) : bits .and .u64 z 255 = z % 256 := by go_bits2
theorem num10_len (n : Nat) (h : n < 256) : (numT 10 n).length ≤ 3 := by
  have := numT_length 10 (by omega) 3 n (by omega)
  simpa using this
set_option maxRecDepth 100000 in
set_option maxHeartbeats 1600000 in
theorem of4_any {w : World} (hi lo : Int) (h2 : 0 ≤ lo ∧ lo < 18446744073709551616) (ht : Tabs w) :
    Calls Tryd.prog 40 #[.agg #[.bool false, .int .u64 hi, .int .u64 lo]] w fun e w' => e = .returned (.string ⟨(fourT (octs4 ⟨false, hi, lo⟩)).toArray⟩) ∧ Below w.heap.size w w' := by
  have CF := Lib.hid (fun (u : Nat) (hu : u < 65536) (W : World) (hb : Below w.heap.size w W) => format_any 10 u (.inl rfl) hu W (ht.below hb))
  obtain ⟨l, hl⟩ : ∃ l : List (List UInt8), l = (octs4 ⟨false, hi, lo⟩).map fun x => numT 10 x.toNat := ⟨_, rfl⟩
  have HL := Lib.hid hl
  have HLL : Hid (l.length = 4) := by rw [hl]; exact (by simp [octs4] : (List.map _ (octs4 _)).length = 4)
  clear ht hl
  have hb1 : Hid (Below w.heap.size w (w.alloc (.cells #[.bool false, .int .u64 hi, .int .u64 lo] 36))) := (Below.refl _ _).alloc (Nat.le_refl _) _
  go_enter Tryd.func40, Tryd.ntmps40
  go_wp2
  obtain ⟨wo, hwo⟩ : ∃ wo, wo = w.alloc (.cells #[.bool false, .int .u64 hi, .int .u64 lo] 36) := ⟨_, rfl⟩
  have hc2 : wo.cell? ⟨w.heap.size, 2, none⟩ = some (.int .u64 lo) := by rw [hwo]; simp [World.cell?_alloc_new]
  have hsz : Hid (wo.heap.size = w.heap.size + 1) := by rw [hwo]; exact Lib.hid (by simp)
  rw [← hwo] at hb1 ⊢
  clear hwo
  go_loopw [11, 3] (fun i v wr => ∃ (j : Nat) (v3 : Value), j ≤ 4 ∧ i = .int .i64 j ∧ v3 = v ∧ Hid (wr.ownsRow wo.heap.size 9 1 v3 j ((l.take j).map strV)) ∧ Hid (Below wo.heap.size wo wr)) (fun i _ _ => 4 - (RowKit.intOf i).toNat)
  case atStart => exact ⟨0, _, by omega, rfl, rfl, World.ownsRow_nil _ _ _ _, Below.refl _ _⟩
  case round =>
    obtain ⟨j, v3, hj, rfl, rfl, hrow, hb⟩ := hrel
    obtain ⟨wp, rfl⟩ : ∃ wp : World, wp = wr := ⟨_, rfl⟩
    have hs := hb.out.size
    have q2 := (hb.out.cell (p := ⟨w.heap.size, 2, none⟩) (by rw [hsz.out]; exact Nat.lt_succ_self _)).trans hc2
    by_cases hlt : j < 4
    · obtain ⟨s, hs'⟩ : ∃ s : Nat, s = 24 - 8 * j := ⟨_, rfl⟩
      have w8 : IntKind.i64.wrap (8 * (j : Int)) = 8 * (j : Int) := by rw [IntWalk.i64_in _ (by omega)]
      have es : (24 : Int) - 8 * (j : Int) = (s : Int) := by omega
      have ws : IntKind.i64.wrap (s : Int) = (s : Int) := by rw [IntWalk.i64_in _ (by omega)]
      have s0 : (0 : Int) ≤ (s : Int) := by omega
      have s1 : ¬ (s : Int) < 0 := by omega
      have s2 : (s : Int) < 64 := by omega
      have dk : decide ((j : Int) < 4) = true := by simp; omega
      have HB8 : Hid (bits .and .u64 (lo / 2 ^ (24 - 8 * j)) 255 = ((octN ⟨false, hi, lo⟩ j : Nat) : Int)) := by
        show _ = _
        have hp := Int.ediv_nonneg (b := 2 ^ (24 - 8 * j)) h2.1 (Int.le_of_lt (Int.pow_pos (by omega)))
        rw [and_low8 _ hp (Int.lt_of_le_of_lt (Int.ediv_le_self _ h2.1) h2.2), oct_four hi lo j h2.1]
      have hlt8 : octN ⟨false, hi, lo⟩ j < 256 := by unfold octN; exact Nat.mod_lt _ (by omega)
      have CC := Lib.hid (CF.out (octN ⟨false, hi, lo⟩ j) (by omega) wp (below_step hb1.out (by have := hsz.out; exact hb.out.mono (by omega))))
      have HTK : Hid ((l.take (j + 1)).map strV = (l.take j).map strV ++ [strV (numT 10 (octN ⟨false, hi, lo⟩ j))]) := by
        show _ = _
        have : l[j]? = some (numT 10 (octN ⟨false, hi, lo⟩ j)) := by rw [HL.out, List.getElem?_map]; unfold octs4; rw [List.getElem?_map, List.getElem?_range hlt]; simp
        rw [List.take_add_one, this, List.map_append]; rfl
      clear hlt8
      go_wp2_with fail
      rw [HB8.out]
      refine CC.out.mono ?_
      rintro e w4 ⟨rfl, hb4⟩
      have HO4 := Lib.hid (own_below hrow.out hb4)
      have HB4 := Lib.hid (below_step hb.out hb4)
      have hs4 : wo.heap.size ≤ w4.heap.size := by have := hb4.size; omega
      clear hb4 CC
      simp only
      go_wp2_with (at_builtin; go_loud (refine wpList_append_oneN (us := [strV (numT 10 (octN ⟨false, hi, lo⟩ j))]) rfl _ _ 124 rfl wo.heap.size _ 1 16 Tryd.underlying124 infoStr rfl (by decide) _ _ _ rfl rfl rfl HO4.out hs4 rfl (by intro u hu; simp at hu; subst hu; rfl) (by unfold maxLen; omega) (by omega) ?_))
      intro v5 w5 hown5 hb5 hs5 hk5
      have HO5 : Hid (w5.ownsRow wo.heap.size 9 1 v5 (j + 1) ((l.take (j + 1)).map strV)) := by
        show World.ownsRow _ _ _ _ _ _ _
        rw [HTK.out]
        simpa only [List.map_take] using hown5
      have HB5 := Lib.hid (HB4.out.trans hb5)
      clear hown5 hb5 hk5
      go_wp2
      go_roundw
      case rel => exact ⟨j + 1, _, by omega, by go_num, rfl, HO5.out, HB5.out⟩
      case measure => simp [RowKit.intOf]; omega
    · obtain rfl : j = 4 := by omega
      have hrow2 := hrow.out
      rw [List.take_of_length_le (by rw [HLL.out]; exact Nat.le_refl _)] at hrow2
      have CJ := Lib.hid (join_own (l := l) 46 (by have := HLL.out; exact hrow2) (fun x hx => by
        rw [HL.out] at hx
        obtain ⟨y, hy, rfl⟩ := List.mem_map.1 hx
        obtain ⟨i, _, rfl⟩ := List.mem_map.1 hy
        have := num10_len (octN ⟨false, hi, lo⟩ i) (by unfold octN; exact Nat.mod_lt _ (by omega))
        rw [Int.toNat_natCast]
        omega) (by rw [HLL.out]; omega))
      clear hrow2 hrow
      go_wp2_with fail
      refine CJ.out.mono ?_
      rintro e w6 ⟨rfl, hb6⟩
      have HB6 := Lib.hid (below_step hb.out hb6)
      clear hb6
      go_wp2
      go_ret
      refine ⟨?_, below_step hb1.out (by have := hsz.out; exact HB6.out.mono (by omega))⟩
      rw [HL.out]
      rfl

end Go.Proofs.YtpecpodchkglkaaDoor

namespace Go.Proofs.YtpecpodchkglkaaDoor
open Go.ChangeShapes Go.WideShapes Go.ChangeAt Go.RowKit

theorem len8 : Tryd.prog.arrayLen 127 = 8 := by kernel_rfl
theorem cut_all (b : Nat) (W : World) : (Instr.sliceAt 127 (.pointer (some ⟨b, 0, none⟩)) none none none).run Tryd.prog W = .ok (.slice (some ⟨b, 0, none⟩) 8 8) W := by
  rw [run_sliceAt_array_all W 127 ⟨b, 0, none⟩ (by simp [Program.arrayLen, Program.elem, Tryd.underlying127])]
  rw [len8]
  go_simp
theorem cut_to (b f : Nat) (hf : f ≤ 8) (W : World) : (Instr.sliceAt 127 (.pointer (some ⟨b, 0, none⟩)) none (some (.int .i64 (f : Int))) none).run Tryd.prog W = .ok (.slice (some ⟨b, 0, none⟩) f 8) W := by
  rw [run_sliceAt_array_h W 127 ⟨b, 0, none⟩ (by simp [Program.arrayLen, Program.elem, Tryd.underlying127]) .i64 (f : Int) (by omega) (by rw [len8]; omega)]
  rw [len8]
  go_simp
theorem cut_from (b f : Nat) (hf : f ≤ 8) (W : World) : (Instr.sliceAt 127 (.pointer (some ⟨b, 0, none⟩)) (some (.int .i64 (f : Int))) none none).run Tryd.prog W = .ok (.slice (some (if 8 = f then ⟨b, 0, none⟩ else (⟨b, 0, none⟩ : Addr).add f)) (8 - f) (8 - f)) W := by
  rw [run_sliceAt_array_l W 127 ⟨b, 0, none⟩ (by simp [Program.arrayLen, Program.elem, Tryd.underlying127]) .i64 (f : Int) (by omega) (by rw [len8]; omega)]
  rw [len8]
  go_simp

set_option maxRecDepth 100000 in
set_option maxHeartbeats 1600000 in
theorem of6_any {w : World} (hi lo : Int) (h1 : 0 ≤ hi ∧ hi < 18446744073709551616) (h2 : 0 ≤ lo ∧ lo < 18446744073709551616) (ht : Tabs w) :
    Calls Tryd.prog 40 #[.agg #[.bool true, .int .u64 hi, .int .u64 lo]] w fun e w' => e = .returned (.string ⟨(sixT (gps hi lo) (runP (gps hi lo) 8).1 (runP (gps hi lo) 8).2).toArray⟩) ∧ Below w.heap.size w w' := by
  have CG := Lib.hid (fun (W : World) => groups_any true hi lo W h1 h2)
  have CR := Lib.hid (fun (W : World) => run_any (gps hi lo) rfl W)
  have HLT := Lib.hid (gps_lt hi lo h1.1 h2.1)
  have HT := Lib.hid ht
  obtain ⟨g, hg⟩ : ∃ g, g = gps hi lo := ⟨_, rfl⟩
  have HG := Lib.hid hg
  have HRL := Lib.hid (runP_le g 8 (by rw [hg]; exact Nat.le_refl _))
  rw [← hg] at CG CR HLT ⊢
  obtain ⟨g0, g1, g2, g3, g4, g5, g6, g7, he⟩ : ∃ g0 g1 g2 g3 g4 g5 g6 g7, g = [g0, g1, g2, g3, g4, g5, g6, g7] := ⟨_, _, _, _, _, _, _, _, hg⟩
  have HE := Lib.hid he
  have HLN : Hid (g.length = 8) := by rw [he]; exact rfl
  have hm : (g.map (Value.int .u64)).toArray = #[.int .u64 g0, .int .u64 g1, .int .u64 g2, .int .u64 g3, .int .u64 g4, .int .u64 g5, .int .u64 g6, .int .u64 g7] := by rw [he]; rfl
  simp only [hm] at CG CR
  obtain ⟨F, M, hFM⟩ : ∃ F M, runP g 8 = (F, M) := ⟨_, _, rfl⟩
  rw [hFM] at CR HRL ⊢
  simp only at CR HRL ⊢
  rw [HLN.out] at HRL
  have hfm : F + M ≤ 8 := HRL.out
  clear hm he hFM hg ht HG HRL
  go_enter Tryd.func40, Tryd.ntmps40
  go_wp2_with fail
  refine (CG.out _).mono ?_
  rintro e w1 ⟨rfl, hb1⟩
  have HB1 := Lib.hid (below_step ((Below.refl _ _).alloc (Nat.le_refl _) _) hb1)
  have hz1 := HB1.out.size
  clear hb1 CG
  go_wp2_with fail
  refine (CR.out _).mono ?_
  rintro e w2 ⟨rfl, hb2⟩
  have hrd : Reads (w1.alloc (.cells #[.int .u64 g0, .int .u64 g1, .int .u64 g2, .int .u64 g3, .int .u64 g4, .int .u64 g5, .int .u64 g6, .int .u64 g7] 127)) (w1.alloc (.cells #[.int .u64 g0, .int .u64 g1, .int .u64 g2, .int .u64 g3, .int .u64 g4, .int .u64 g5, .int .u64 g6, .int .u64 g7] 127)).heap.size 1 (some ⟨w1.heap.size, 0, none⟩) 8 (g.map (Value.int .u64)) := by
    refine ⟨by rw [List.length_map, HLN.out], fun _ => ⟨_, rfl, by simp, fun j u hu => ?_⟩⟩
    rw [HE.out] at hu
    match j, hu with
    | 0, hu => simp at hu; subst hu; simp [World.cell?_alloc_new, Addr.add]
    | 1, hu => simp at hu; subst hu; simp [World.cell?_alloc_new, Addr.add]
    | 2, hu => simp at hu; subst hu; simp [World.cell?_alloc_new, Addr.add]
    | 3, hu => simp at hu; subst hu; simp [World.cell?_alloc_new, Addr.add]
    | 4, hu => simp at hu; subst hu; simp [World.cell?_alloc_new, Addr.add]
    | 5, hu => simp at hu; subst hu; simp [World.cell?_alloc_new, Addr.add]
    | 6, hu => simp at hu; subst hu; simp [World.cell?_alloc_new, Addr.add]
    | 7, hu => simp at hu; subst hu; simp [World.cell?_alloc_new, Addr.add]
    | _ + 8, hu => simp at hu
  have HRD := Lib.hid (hrd.below hb2)
  have HB2 : Hid (Below w.heap.size w w2) := by
    refine Lib.hid ?_
    have h3 : Below w.heap.size w (w1.alloc (.cells #[.int .u64 g0, .int .u64 g1, .int .u64 g2, .int .u64 g3, .int .u64 g4, .int .u64 g5, .int .u64 g6, .int .u64 g7] 127)) := HB1.out.alloc hz1 _
    exact below_step h3 hb2
  have hz2 : w1.heap.size + 1 ≤ w2.heap.size := by have := hb2.size; simpa using this
  have CH : Hid (∀ (A : Option Addr) (n c : Nat) (k : List Int) (W : World), Below w2.heap.size w2 W → k.length = n → n ≤ 8 → (∀ x ∈ k, x ∈ g) → Reads w2 w2.heap.size 1 A n (k.map (Value.int .u64)) → Calls Tryd.prog 74 #[.slice A n c] W fun e W' => e = .returned (.string ⟨(hexT k).toArray⟩) ∧ Below W.heap.size W W') :=
    fun A n c k W hb hk hn hin hr => hex_any hk hn (fun x hx => HLT.out x (hin x hx)) ((hr.below hb).more hb.size) (HT.out.below (below_step HB2.out hb))
  have HRD2 : Hid (Reads w2 w2.heap.size 1 (some ⟨w1.heap.size, 0, none⟩) 8 (g.map (Value.int .u64))) := by
    refine Lib.hid ?_
    have := HRD.out
    exact this.more (by simpa using hz2)
  clear hrd hb2 CR HRD
  by_cases hM : M < 2
  · have CH1 := Lib.hid (CH.out (some ⟨w1.heap.size, 0, none⟩) 8 8 g w2 (Below.refl _ _) HLN.out (by omega) (fun _ h => h) HRD2.out)
    have hsl := cut_all w1.heap.size
    rw [if_pos hM, if_pos hM]
    clear CH HRD2
    go_wp2_with fail
    refine CH1.out.mono ?_
    rintro e w3 ⟨rfl, hb3⟩
    have HB3 := Lib.hid (below_step HB2.out hb3)
    clear hb3
    go_wp2
    go_ret
    refine ⟨?_, HB3.out⟩
    unfold sixT
    rw [if_pos hM]
    rfl
  · have hsl1 := cut_to w1.heap.size F (by omega)
    have hsl2 := cut_from w1.heap.size (F + M) hfm
    obtain ⟨A2, hA2⟩ : ∃ A2, (if 8 = F + M then (⟨w1.heap.size, 0, none⟩ : Addr) else (⟨w1.heap.size, 0, none⟩ : Addr).add (F + M)) = A2 := ⟨_, rfl⟩
    rw [hA2] at hsl2
    have hr1 : Reads w2 w2.heap.size 1 (some ⟨w1.heap.size, 0, none⟩) F ((g.take F).map (Value.int .u64)) := by
      have := HRD2.out
      refine ⟨by rw [List.length_map, List.length_take, HLN.out]; omega, fun hn => ?_⟩
      obtain ⟨ad, e, hb, hc⟩ := this.2 (by omega)
      refine ⟨ad, e, hb, fun j u hu => hc j u ?_⟩
      rw [List.map_take] at hu
      by_cases hj : j < F
      · rwa [List.getElem?_take_of_lt hj] at hu
      · rw [List.getElem?_take_eq_none (by omega)] at hu; cases hu
    have hr2 : Reads w2 w2.heap.size 1 (some A2) (8 - (F + M)) ((g.drop (F + M)).map (Value.int .u64)) := by
      have := HRD2.out.cut (k := F + M) (cap := 8) hfm (Nat.le_refl _)
      rw [List.map_drop]
      rw [Nat.mul_one] at this
      rw [← hA2]
      by_cases h8 : 8 = F + M
      · rw [if_pos h8] at this ⊢
        exact this
      · rw [if_neg h8] at this ⊢
        exact this
    have CH1 := Lib.hid (fun W hb => CH.out (some ⟨w1.heap.size, 0, none⟩) F 8 (g.take F) W hb (by rw [List.length_take, HLN.out]; omega) (by omega) (fun _ h => List.mem_of_mem_take h) hr1)
    have CH2 := Lib.hid (fun W hb => CH.out (some A2) (8 - (F + M)) (8 - (F + M)) (g.drop (F + M)) W hb (by rw [List.length_drop, HLN.out]) (by omega) (fun _ h => List.mem_of_mem_drop h) hr2)
    have HLA : Hid ((hexT (g.take F)).length ≤ 80) := by
      refine Lib.hid (Nat.le_trans (joinT_len 58 4 _ (fun x hx => ?_)) ?_)
      · obtain ⟨y, hy, rfl⟩ := List.mem_map.1 hx
        have h := HLT.out y (List.mem_of_mem_take hy)
        exact num16_len _ (by omega)
      · rw [List.length_map, List.length_take, HLN.out]; omega
    have HLB : Hid ((hexT (g.drop (F + M))).length ≤ 80) := by
      refine Lib.hid (Nat.le_trans (joinT_len 58 4 _ (fun x hx => ?_)) ?_)
      · obtain ⟨y, hy, rfl⟩ := List.mem_map.1 hx
        have h := HLT.out y (List.mem_of_mem_drop hy)
        exact num16_len _ (by omega)
      · rw [List.length_map, List.length_drop, HLN.out]; omega
    have HSX : Hid (sixT g F M = hexT (g.take F) ++ [58, 58] ++ hexT (g.drop (F + M))) := by refine Lib.hid ?_; unfold sixT; rw [if_neg hM]
    obtain ⟨ta, hta⟩ : ∃ ta, hexT (g.take F) = ta := ⟨_, rfl⟩
    obtain ⟨tb, htb⟩ : ∃ tb, hexT (g.drop (F + M)) = tb := ⟨_, rfl⟩
    rw [hta] at CH1 HLA HSX
    rw [htb] at CH2 HLB HSX
    have m0 : ((M : Int) == 0) = false := by simp; omega
    have wfm : IntKind.i64.wrap ((F : Int) + (M : Int)) = ((F + M : Nat) : Int) := by rw [IntWalk.i64_in _ (by omega)]; omega
    have hla := HLA.out
    have hlb := HLB.out
    rw [show ((F + M : Nat) : Int) = (F : Int) + (M : Int) from Int.natCast_add _ _] at wfm
    simp only [Int.natCast_add] at hsl2
    rw [if_neg hM, if_neg hM]
    obtain ⟨tc, htc⟩ : ∃ tc, ta ++ [58, 58] = tc := ⟨_, rfl⟩
    have htl : tc.length ≤ 82 := by rw [← htc, List.length_append]; simp only [List.length_cons, List.length_nil]; omega
    have hs1 : ∀ W : World, (Op.stringOp .add ⟨ta.toArray⟩ ⟨#[58, 58]⟩).run Tryd.prog W = .ok (.string ⟨tc.toArray⟩) W := fun W => by
      have := run_string_add_lists (P := Tryd.prog) W ta [58, 58] (by omega) (by simp)
      rw [htc] at this
      exact this
    have hs2 : ∀ W : World, (Op.stringOp .add ⟨tc.toArray⟩ ⟨tb.toArray⟩).run Tryd.prog W = .ok (.string ⟨(tc ++ tb).toArray⟩) W := fun W => run_string_add_lists (P := Tryd.prog) W tc tb (by omega) (by omega)
    have HTC := Lib.hid htc
    obtain ⟨td, htd⟩ : ∃ td, tc ++ tb = td := ⟨_, rfl⟩
    rw [htd] at hs2
    have HTD := Lib.hid htd
    clear CH HRD2 hr1 hr2 hta htb hA2 hM HLA HLB htc htd hla hlb htl
    go_wp2_with fail
    go_region_held3 (fun w' => (∀ b o, b < w2.heap.size → w'.cell? ⟨b, o, none⟩ = w2.cell? ⟨b, o, none⟩) ∧ w2.heap.size ≤ w'.heap.size ∧ Hid (Below w2.heap.size w2 w'))
      ((first | assumption | exact keep0 _ | exact keep1 (by assumption) (by assumption) | exact keepD (by assumption) | exact keepB (by assumption) (by assumption) | exact keepA (by assumption) _ | exact ⟨fun _ _ _ => rfl, Nat.le_refl _, Below.refl _ _⟩))
      (first | (go_at_call 74; (with_reducible refine (CH1.out _ ?hb1).mono ?_); (case hb1 => exact keepBelow (by assumption)); rintro e w5 ⟨rfl, hb5⟩; obtain ⟨fc5, ff5⟩ := bcell hb5; have hz5 := hb5.size) | (go_at_call 74; (with_reducible refine (CH2.out _ ?hb1).mono ?_); (case hb1 => exact keepBelow (by assumption)); rintro e w6 ⟨rfl, hb6⟩; obtain ⟨fc6, ff6⟩ := bcell hb6; have hz6 := hb6.size))
    all_goals go_wp2
    all_goals go_ret
    all_goals (refine ⟨?_, below_step HB2.out (keepBelow (by assumption))⟩; rw [HSX.out, HTC.out, HTD.out]; rfl)

end Go.Proofs.YtpecpodchkglkaaDoor

namespace Go.Proofs.YtpecpodchkglkaaDoor

/-- The text of the first i parts, where those from f on, b in number, are left out (f = 8: none are). -/
def partT (l : List (List UInt8)) (f b i : Nat) : List UInt8 := if i ≤ f then joinT 58 (l.take i) else joinT 58 (l.take f) ++ [58, 58] ++ joinT 58 ((l.drop (f + b)).take (i - (f + b)))
theorem partT_zero (l : List (List UInt8)) (f b : Nat) : partT l f b 0 = [] := by unfold partT; rw [if_pos (Nat.zero_le _)]; rfl
theorem partT_at (l : List (List UInt8)) (f b : Nat) (hb : 1 ≤ b) : partT l f b (f + b) = partT l f b f ++ [58, 58] := by
  unfold partT
  rw [if_neg (by omega), if_pos (Nat.le_refl _), Nat.sub_self]
  simp [joinT]
theorem partT_step {l : List (List UInt8)} {f b i : Nat} {x : List UInt8} (hx : l[i]? = some x) (h : i < f ∨ f + b ≤ i) (hb : 1 ≤ b) :
    partT l f b (i + 1) = (if 0 < i ∧ ¬ i = f + b then partT l f b i ++ [58] ++ x else partT l f b i ++ x) := by
  unfold partT
  have hil : i < l.length := (List.getElem?_eq_some_iff.1 hx).1
  rcases h with h | h
  · rw [if_pos (show i + 1 ≤ f by omega), if_pos (show i ≤ f by omega), List.take_add_one, hx]
    by_cases h0 : i = 0
    · subst h0
      rw [if_neg (by omega)]
      simp [joinT]
    · rw [if_pos ⟨by omega, by omega⟩]
      exact joinT_snoc 58 _ x (fun e => by
        have := congrArg List.length e
        rw [List.length_take, List.length_nil] at this
        omega)
  · rw [if_neg (show ¬ i + 1 ≤ f by omega), if_neg (show ¬ i ≤ f by omega), show i + 1 - (f + b) = (i - (f + b)) + 1 by omega, List.take_add_one, List.getElem?_drop, show f + b + (i - (f + b)) = i by omega, hx]
    by_cases h0 : i = f + b
    · subst h0
      rw [if_neg (by omega), Nat.sub_self]
      simp [joinT]
    · rw [if_pos ⟨by omega, h0⟩]
      rw [show (some x).toList = [x] from rfl, joinT_snoc 58 _ x (fun e => by
        have := congrArg List.length e
        rw [List.length_take, List.length_drop, List.length_nil] at this
        omega)]
      simp
theorem partT_len (l : List (List UInt8)) (f b i : Nat) (h : ∀ x ∈ l, x.length ≤ 4) (hl : l.length = 8) : (partT l f b i).length ≤ 100 := by
  have key : ∀ m : List (List UInt8), (∀ x ∈ m, x ∈ l) → m.length ≤ 8 → (joinT 58 m).length ≤ 40 := by
    intro m hm hn
    have h1 : ∀ m : List (List UInt8), (∀ x ∈ m, x.length ≤ 4) → (joinT 58 m).length ≤ 5 * m.length := by
      intro m
      induction m with
      | nil => simp [joinT]
      | cons x m ih =>
        intro hx
        cases m with
        | nil => have := hx x (by simp); simp [joinT]; omega
        | cons y m =>
          have h1 := hx x (by simp)
          have h2 := ih (fun z hz => hx z (by simp at hz ⊢; right; exact hz))
          show (x ++ [58] ++ joinT 58 (y :: m)).length ≤ _
          rw [List.length_append, List.length_append]
          simp only [List.length_cons, List.length_nil] at h2 ⊢
          omega
    have := h1 m (fun x hx => h x (hm x hx))
    omega
  unfold partT
  split
  · have := key (l.take i) (fun x hx => List.mem_of_mem_take hx) (by rw [List.length_take]; omega)
    omega
  · have h1 := key (l.take f) (fun x hx => List.mem_of_mem_take hx) (by rw [List.length_take]; omega)
    have h2 := key ((l.drop (f + b)).take (i - (f + b))) (fun x hx => List.mem_of_mem_drop (List.mem_of_mem_take hx)) (by rw [List.length_take, List.length_drop]; omega)
    simp only [List.length_append, List.length_cons, List.length_nil]
    omega
theorem runR_le (g : List Int) : ∀ i, i ≤ g.length → -1 ≤ (runR g i).1 ∧ 1 ≤ (runR g i).2 ∧ (runR g i).1 + (runR g i).2 ≤ max 0 g.length ∧ (0 ≤ (runR g i).1 → 2 ≤ (runR g i).2) ∧ ((runR g i).1 < 0 → (runR g i).2 = 1)
  | 0, _ => by simp [runR]
  | i + 1, h => by
    have := runR_le g i (by omega)
    have := zerosAt_le g i
    unfold runR
    split
    · refine ⟨?_, ?_, ?_, ?_, ?_⟩ <;> simp only <;> omega
    · omega
/-- What both compute is one text. -/
theorem text_same (g : List Int) (hg : g.length = 8) : sixT g (runP g 8).1 (runP g 8).2 = partT (g.map fun x => numT 16 x.toNat) (if (runR g 8).1 < 0 then 8 else (runR g 8).1.toNat) (runR g 8).2 8 := by
  obtain ⟨h0, h1, h2⟩ := runs_same g 8
  have hle := runP_le g 8 (by omega)
  unfold sixT
  by_cases hm : (runP g 8).2 < 2
  · rw [if_pos hm, h2 hm]
    unfold partT
    simp only
    rw [if_pos (by decide)]
    unfold hexT
    rw [List.take_of_length_le (by rw [List.length_map, hg]; exact Nat.le_refl _)]
  · rw [if_neg hm, h1 (by omega)]
    unfold partT
    simp only
    rw [if_neg (show ¬ (((runP g 8).1 : Nat) : Int) < 0 by omega), Int.toNat_natCast, if_neg (by omega)]
    unfold hexT
    rw [List.map_take, List.map_drop, List.take_of_length_le (l := ((g.map fun x => numT 16 x.toNat).drop _)) (by rw [List.length_drop, List.length_map, hg]; exact Nat.le_refl _)]

end Go.Proofs.YtpecpodchkglkaaDoor

namespace Go.Proofs.YtpecpodchkglkaaDoor
open Go.ChangeShapes Go.WideShapes Go.ChangeAt Go.RowKit

def hexS : ByteArray := ⟨#[48, 49, 50, 51, 52, 53, 54, 55, 56, 57, 97, 98, 99, 100, 101, 102]⟩
theorem hex_dig : ∀ d : Fin 16, (hexS.extract d.1 16).extract 0 1 = ⟨#[digB d.1]⟩ := by decide +kernel
theorem hex_size : ∀ d : Fin 16, 1 ≤ (hexS.extract d.1 16).size := by decide +kernel
theorem dig_cut1 (d : Nat) (hd : d < 16) (W : World) : (Instr.sliceAt 9 (.string hexS) (some (.int .i64 (d : Int))) none none).run Tryd.prog W = .ok (.string (hexS.extract d 16)) W := by
  rw [run_sliceAt_string (h := Tryd.underlying9), run_slice_string_l W _ _ Tryd.underlying9 .i64 (d : Int) (by omega) (by show (d : Int) ≤ ((hexS.size : Nat) : Int); have : hexS.size = 16 := rfl; omega)]
  rfl
theorem dig_cut2 (d : Nat) (hd : d < 16) (W : World) : (Instr.sliceAt 9 (.string (hexS.extract d 16)) none (some (.int .i64 1)) none).run Tryd.prog W = .ok (.string ⟨#[digB d]⟩) W := by
  rw [run_sliceAt_string (h := Tryd.underlying9), run_slice_string_h W _ _ Tryd.underlying9 .i64 1 (by omega) (by have := hex_size ⟨d, hd⟩; simp only at this; omega)]
  have := hex_dig ⟨d, hd⟩
  simp only at this
  rw [show (1 : Int).toNat = 1 from rfl, this]


set_option maxRecDepth 100000 in
set_option maxHeartbeats 1600000 in
theorem numText_any (base : Nat) (hb : base = 10 ∨ base = 16) : ∀ (n : Nat) (_ : n < 65536) (w : World),
    Calls Tryd.prog 43 #[.int .i64 n, .int .i64 base] w fun e w' => e = .returned (.string ⟨(numT base n).toArray⟩) ∧ Below w.heap.size w w' := by
  intro n
  induction n using Nat.strongRecOn with
  | _ n ih =>
  intro hn w
  have hb2 : 2 ≤ base ∧ base ≤ 16 := by omega
  have hml := Nat.mod_lt n (y := base) (by omega)
  have hmod : Int.tmod (n : Int) (base : Int) = ((n % base : Nat) : Int) := by rw [Int.tmod_eq_emod_of_nonneg (by omega)]; exact (Int.natCast_emod n base).symm
  have hdiv : Int.tdiv (n : Int) (base : Int) = ((n / base : Nat) : Int) := by rw [Int.tdiv_eq_ediv_of_nonneg (by omega)]; exact (Int.natCast_ediv n base).symm
  obtain ⟨d, hd⟩ : ∃ d, n % base = d := ⟨_, rfl⟩
  obtain ⟨q, hq⟩ : ∃ q, n / base = q := ⟨_, rfl⟩
  rw [hd] at hmod hml
  rw [hq] at hdiv
  have hc1 := dig_cut1 d (by omega)
  have hc2 := dig_cut2 d (by omega)
  unfold hexS at hc1 hc2
  obtain ⟨T1, hT1⟩ : ∃ T1 : ByteArray, (ByteArray.mk #[48, 49, 50, 51, 52, 53, 54, 55, 56, 57, 97, 98, 99, 100, 101, 102]).extract d 16 = T1 := ⟨_, rfl⟩
  rw [hT1] at hc1 hc2
  have wd : IntKind.i64.wrap (d : Int) = (d : Int) := by rw [IntWalk.i64_in _ (by omega)]
  have b0 : ((base : Int) == 0) = false := by simp; omega
  have b1 : ¬ (base : Int) = 0 := by omega
  by_cases hlt : n < base
  · have dl : decide (n < base) = true := by simpa using hlt
    have HR : Hid (numT base n = [digB d]) := by refine Lib.hid ?_; rw [numT_small hlt, ← hd, Nat.mod_eq_of_lt hlt]
    clear ih hd hq hT1 hdiv hb
    go_enter Tryd.func43, Tryd.ntmps43
    go_wp2_with fail
    go_ret
    exact ⟨by rw [HR.out]; rfl, Below.refl _ _⟩
  · have dl : decide (n < base) = false := by simpa using hlt
    have hql : q < n := by rw [← hq]; exact Nat.div_lt_self (by omega) (by omega)
    have wq : IntKind.i64.wrap (q : Int) = (q : Int) := by rw [IntWalk.i64_in _ (by omega)]
    have HR : Hid (numT base n = numT base q ++ [digB d]) := by refine Lib.hid ?_; rw [numT_step hlt hb2.1, hq, hd]
    have HLQ : Hid ((numT base q).length ≤ 16) := by
      refine Lib.hid (Nat.le_trans (numT_length base hb2.1 16 q (Nat.lt_of_lt_of_le (by omega : q < 2 ^ 16) (Nat.pow_le_pow_left hb2.1 16))) (by decide))
    have CI := Lib.hid (ih q hql (by omega))
    obtain ⟨tq, htq⟩ : ∃ tq, numT base q = tq := ⟨_, rfl⟩
    rw [htq] at HR HLQ CI
    have hla := HLQ.out
    clear ih hd hq hT1 hb htq HLQ
    go_enter Tryd.func43, Tryd.ntmps43
    go_wp2_with fail
    refine (CI.out _).mono ?_
    rintro e w1 ⟨rfl, hb1⟩
    go_wp2
    go_ret
    exact ⟨by rw [HR.out]; simp [ByteArray.mk_append_mk], hb1⟩

end Go.Proofs.YtpecpodchkglkaaDoor

namespace Go.Proofs.YtpecpodchkglkaaDoor
open Go.ChangeShapes Go.WideShapes Go.ChangeAt Go.RowKit

theorem groups4_eq (hi lo : Int) : groups (⟨false, hi, lo⟩ : AV).v 32 8 32 = octs4 ⟨false, hi, lo⟩ := by
  unfold groups octs4
  rw [show (32 + 8 - 1) / 8 = 4 by decide]
  refine List.map_congr_left fun j hj => ?_
  have := gv_oct (⟨false, hi, lo⟩ : AV) j (by simp at hj; simp [widN]; omega)
  simp only [widN, Bool.false_eq_true, if_false] at this
  rw [this]
theorem joinT_step {s : UInt8} {l : List (List UInt8)} {i : Nat} {x : List UInt8} (hx : l[i]? = some x) : joinT s (l.take (i + 1)) = (if 0 < i then joinT s (l.take i) ++ [s] ++ x else joinT s (l.take i) ++ x) := by
  have hil : i < l.length := (List.getElem?_eq_some_iff.1 hx).1
  rw [List.take_add_one, hx]
  by_cases h0 : i = 0
  · subst h0
    rw [if_neg (by omega)]
    simp [joinT]
  · rw [if_pos (by omega)]
    exact joinT_snoc s _ x (fun e => by
      have := congrArg List.length e
      rw [List.length_take, List.length_nil] at this
      omega)
theorem joinT_le (s : UInt8) (k : Nat) (l : List (List UInt8)) (h : ∀ x ∈ l, x.length ≤ k) (i : Nat) : (joinT s (l.take i)).length ≤ (k + 1) * l.length := by
  refine Nat.le_trans (joinT_len s k _ fun x hx => h x (List.mem_of_mem_take hx)) (Nat.mul_le_mul_left _ ?_)
  rw [List.length_take]; omega
theorem octs4_lt (a : AV) : ∀ x ∈ octs4 a, 0 ≤ x ∧ x < 256 := by
  intro x hx
  obtain ⟨i, _, rfl⟩ := List.mem_map.1 hx
  have : octN a i < 256 := by unfold octN; exact Nat.mod_lt _ (by omega)
  omega

set_option maxRecDepth 100000 in
set_option maxHeartbeats 1600000 in
theorem refTxt4_any (hi lo : Int) (w : World) (ha : (⟨false, hi, lo⟩ : AV).Ok) :
    Calls Tryd.prog 17 #[.agg #[.bool false, .int .u64 hi, .int .u64 lo]] w fun e w' => e = .returned (.tuple #[.string ⟨(fourT (octs4 ⟨false, hi, lo⟩)).toArray⟩, .int .i64 0]) ∧ Below w.heap.size w w' := by
  have CM := Lib.hid (fun (W : World) => refMay_any false hi lo W ha.rlo.1)
  have CP := Lib.hid (fun (W : World) => partsOf_any false hi lo 8 W ha (by omega) (by omega))
  have CN := Lib.hid (fun (n : Nat) (hn : n < 65536) (W : World) => numText_any 10 (.inl rfl) n hn W)
  have hmay : mayB false hi lo = true := ha.may
  rw [hmay] at CM
  obtain ⟨g, hg⟩ : ∃ g, g = octs4 ⟨false, hi, lo⟩ := ⟨_, rfl⟩
  have HLT : Hid (∀ x ∈ g, 0 ≤ x ∧ x < 256) := by rw [hg]; exact octs4_lt _
  have HLN : Hid (g.length = 4) := by rw [hg]; exact Lib.hid (by simp [octs4])
  unfold PartsOut at CP
  simp only [show widN false = 32 from rfl, groups4_eq] at CP
  rw [← hg] at CP ⊢
  rw [HLN.out] at CP
  obtain ⟨l, hl⟩ : ∃ l : List (List UInt8), l = g.map fun x => numT 10 x.toNat := ⟨_, rfl⟩
  have HFT : Hid (fourT g = joinT 46 l) := by rw [hl]; exact Lib.hid rfl
  have HLL : Hid (l.length = 4) := by rw [hl]; refine Lib.hid ?_; rw [List.length_map]; exact HLN.out
  have HLB : Hid (∀ x ∈ l, x.length ≤ 3) := by
    refine Lib.hid fun x hx => ?_
    rw [hl] at hx
    obtain ⟨y, hy, rfl⟩ := List.mem_map.1 hx
    have := HLT.out y hy
    exact num10_len _ (by omega)
  have HLX := Lib.hid hl
  clear hl hg ha hmay
  go_enter Tryd.func17, Tryd.ntmps17
  go_wp2_with fail
  refine (CM.out _).mono ?_
  rintro e w1 ⟨rfl, hb1⟩
  obtain ⟨fc1, ff1⟩ := bcell hb1
  have s1 := bsize1 hb1
  have HB1 := Lib.hid (balloc1 hb1)
  clear hb1
  go_wp2_with fail
  refine (CP.out _).mono ?_
  rintro e w2 ⟨vb, rfl, hown, hb2⟩
  have s2 := hb2.size
  have HB2 := Lib.hid (below_step HB1.out hb2)
  obtain ⟨Ab, cb, rfl, hcb, hrb⟩ := own_reads hown
  have HRB := Lib.hid hrb
  clear hown hrb hb2 CP CM fc1 ff1
  go_wp2
  go_loopw [22, 4] (fun i s wr => ∃ k : Nat, k ≤ 4 ∧ i = .int .i64 k ∧ s = .string ⟨(joinT 46 (l.take k)).toArray⟩ ∧ Hid (Below w2.heap.size w2 wr)) (fun i _ _ => 4 - (RowKit.intOf i).toNat)
  case atStart => exact ⟨0, by omega, rfl, rfl, Below.refl _ _⟩
  case round =>
    obtain ⟨k, hk, rfl, rfl, hb⟩ := hrel
    obtain ⟨wo, rfl⟩ : ∃ wo : World, wo = wr := ⟨_, rfl⟩
    have hs := hb.out.size
    by_cases hlt : k < 4
    · obtain ⟨ab, x, rfl, hx, -, hxl, hm⟩ := HRB.out.at1 hlt
      have hbl : ab.block < w2.heap.size := by
        obtain ⟨ad', e1, hb', _⟩ := HRB.out.2 (by omega)
        injection e1 with e1
        rw [e1]; exact hb'
      have q0 := (hb.out.cell (p := ab.add k) (by rw [block_of_add]; exact hbl)).trans hx
      have hxr := HLT.out x hm
      obtain ⟨u, rfl⟩ : ∃ u : Nat, x = u := ⟨x.toNat, by omega⟩
      have hlk : l[k]? = some (numT 10 u) := by rw [HLX.out, List.getElem?_map, hxl]; simp
      have HST := Lib.hid (joinT_step (s := 46) hlk)
      have hla : (joinT 46 (l.take k)).length ≤ 16 := by have := joinT_le 46 3 l HLB.out k; rw [HLL.out] at this; omega
      have hlb : (numT 10 u).length ≤ 3 := HLB.out _ (List.mem_of_getElem? hlk)
      have CC := Lib.hid (fun W => CN.out u (by omega) W)
      obtain ⟨ta, hta⟩ : ∃ ta, joinT 46 (l.take k) = ta := ⟨_, rfl⟩
      obtain ⟨tb, htb⟩ : ∃ tb, numT 10 u = tb := ⟨_, rfl⟩
      rw [hta, htb] at HST
      rw [hta] at hla ⊢
      rw [htb] at hlb CC
      clear hx hlk hm hxl hta htb
      by_cases h0 : k = 0
      · rw [if_neg (by omega)] at HST
        have d0 : decide (0 < k) = false := by simp; omega
        have d1 : ¬ 0 < k := by omega
        clear h0
        go_wp2_with fail
        refine (CC.out _).mono ?_
        rintro e w4 ⟨rfl, hb4⟩
        have HB4 := Lib.hid (below_step hb.out hb4)
        clear hb4 CC
        go_wp2
        go_roundw
        case rel => exact ⟨k + 1, by omega, by go_num, by rw [HST.out]; simp [ByteArray.mk_append_mk], HB4.out⟩
        case measure => simp [RowKit.intOf]; omega
      · rw [if_pos (by omega)] at HST
        have d0 : decide (0 < k) = true := by simp; omega
        have d1 : 0 < k := by omega
        go_wp2_with fail
        refine (CC.out _).mono ?_
        rintro e w4 ⟨rfl, hb4⟩
        have HB4 := Lib.hid (below_step hb.out hb4)
        clear hb4 CC
        go_wp2
        go_roundw
        case rel => exact ⟨k + 1, by omega, by go_num, by rw [HST.out]; simp [ByteArray.mk_append_mk], HB4.out⟩
        case measure => simp [RowKit.intOf]; omega
    · obtain rfl : k = 4 := by omega
      have HFX : Hid (joinT 46 (l.take 4) = fourT g) := by
        refine Lib.hid ?_
        rw [HFT.out, List.take_of_length_le (by rw [HLL.out]; exact Nat.le_refl _)]
      rw [HFX.out]
      go_wp2
      refine bodyPost_ret (v := .tuple #[.string ⟨(fourT g).toArray⟩, .int .i64 0]) ?_ rfl ⟨rfl, HB2.out.trans (hb.out.mono (Nat.le_trans (Nat.le_of_lt s1) s2))⟩
      simp [results, Tryd.results17, go_sem]

end Go.Proofs.YtpecpodchkglkaaDoor

namespace Go.Proofs.YtpecpodchkglkaaDoor
open Go.ChangeShapes Go.WideShapes Go.ChangeAt Go.RowKit

set_option maxRecDepth 100000 in
set_option maxHeartbeats 1600000 in
theorem refTxt6_any (hi lo : Int) (w : World) (ha : (⟨true, hi, lo⟩ : AV).Ok) :
    Calls Tryd.prog 17 #[.agg #[.bool true, .int .u64 hi, .int .u64 lo]] w fun e w' => e = .returned (.tuple #[.string ⟨(sixT (gps hi lo) (runP (gps hi lo) 8).1 (runP (gps hi lo) 8).2).toArray⟩, .int .i64 0]) ∧ Below w.heap.size w w' := by
  have CM := Lib.hid (fun (W : World) => refMay_any true hi lo W ha.rlo.1)
  have CP := Lib.hid (fun (W : World) => partsOf_any true hi lo 16 W ha (by omega) (by omega))
  have CN := Lib.hid (fun (n : Nat) (hn : n < 65536) (W : World) => numText_any 16 (.inr rfl) n hn W)
  have hmay : mayB true hi lo = true := ha.may
  rw [hmay] at CM
  obtain ⟨g, hg⟩ : ∃ g, g = gps hi lo := ⟨_, rfl⟩
  have HLT : Hid (∀ x ∈ g, 0 ≤ x ∧ x < 65536) := by rw [hg]; exact gps_lt hi lo ha.rhi.1 ha.rlo.1
  have HLN : Hid (g.length = 8) := by rw [hg]; exact Lib.hid rfl
  unfold PartsOut at CP
  simp only [show widN true = 128 from rfl, ← gps_eq hi lo ha.rhi ha.rlo] at CP
  rw [← hg] at CP ⊢
  have HTS := Lib.hid (text_same g HLN.out)
  rw [HLN.out] at CP
  obtain ⟨l, hl⟩ : ∃ l : List (List UInt8), l = g.map fun x => numT 16 x.toNat := ⟨_, rfl⟩
  rw [← hl] at HTS
  have HLL : Hid (l.length = 8) := by rw [hl]; refine Lib.hid ?_; rw [List.length_map]; exact HLN.out
  have HLB : Hid (∀ x ∈ l, x.length ≤ 4) := by
    refine Lib.hid fun x hx => ?_
    rw [hl] at hx
    obtain ⟨y, hy, rfl⟩ := List.mem_map.1 hx
    have := HLT.out y hy
    exact num16_len _ (by omega)
  have HLX := Lib.hid hl
  obtain ⟨ft, hft⟩ : ∃ ft, sixT g (runP g 8).1 (runP g 8).2 = ft := ⟨_, rfl⟩
  rw [hft] at HTS ⊢
  clear hl hg ha hmay hft
  go_enter Tryd.func17, Tryd.ntmps17
  go_wp2_with fail
  refine (CM.out _).mono ?_
  rintro e w1 ⟨rfl, hb1⟩
  obtain ⟨fc1, ff1⟩ := bcell hb1
  have s1 := bsize1 hb1
  have HB1 := Lib.hid (balloc1 hb1)
  clear hb1
  go_wp2_with fail
  refine (CP.out _).mono ?_
  rintro e w2 ⟨vb, rfl, hown, hb2⟩
  have s2 := hb2.size
  have HB2 := Lib.hid (below_step HB1.out hb2)
  obtain ⟨Ab, cb, rfl, hcb, hrb⟩ := own_reads hown
  obtain ⟨ab, hAb, -, hcl⟩ := hrb.2 (by omega)
  subst hAb
  have HC : Hid (∀ j x, g[j]? = some x → w2.cell? (ab.add j) = some (.int .i64 x)) := by
    refine Lib.hid fun j x hj => hcl j _ ?_
    rw [List.getElem?_map, hj]; rfl
  have habl : ab.block < w2.heap.size := by
    obtain ⟨ad', e1, hb', _⟩ := hrb.2 (by omega)
    injection e1 with e1
    rw [e1]; exact hb'
  have HABL := Lib.hid habl
  clear hown hrb hb2 CP CM fc1 ff1 hcl habl
  go_wp2
  go_loopw [41, 8, 9] (fun i f m wr => ∃ k : Nat, k ≤ 8 ∧ i = .int .i64 k ∧ f = .int .i64 (runR g k).1 ∧ m = .int .i64 (runR g k).2 ∧ wr = w2) (fun i _ _ _ => 8 - (RowKit.intOf i).toNat)
  case atStart => exact ⟨0, by omega, rfl, rfl, rfl, rfl⟩
  case round =>
    obtain ⟨k, hk, rfl, hf, hm, rfl⟩ := hrel
    have HRL := Lib.hid (runR_le g k (by rw [HLN.out]; omega))
    have HST : Hid (runR g (k + 1) = if (runR g k).2 < zerosAt g k then ((k : Int), zerosAt g k) else runR g k) := Lib.hid rfl
    obtain ⟨FM, hFM⟩ : ∃ FM, runR g k = FM := ⟨_, rfl⟩
    rw [hFM] at HST HRL hf hm
    have HFM := Lib.hid hFM
    obtain ⟨F, M⟩ := FM
    simp only at hf hm HRL HST
    rw [HLN.out] at HRL
    subst hf hm
    clear hFM
    by_cases hlt : k < 8
    · have hzl : zerosAt g k ≤ 8 - k := by have := zerosAt_le g k; rwa [HLN.out] at this
      obtain ⟨Z, hZ⟩ : ∃ Z, zerosAt g k = Z := ⟨_, rfl⟩
      have HZ := Lib.hid hZ
      rw [hZ] at HST hzl
      clear hZ
      have dk : decide ((k : Int) < 8) = true := by simp; omega
      go_wp2
      go_loopw [11] (fun i wr2 => ∃ j : Nat, j ≤ Z ∧ i = .int .i64 j ∧ wr2 = wr) (fun i _ => 8 - (RowKit.intOf i).toNat)
      case atStart => exact ⟨0, by omega, rfl, rfl⟩
      case round =>
        obtain ⟨j, hj, rfl, rfl⟩ := hrel
        have wkj : IntKind.i64.wrap ((k : Int) + (j : Int)) = ((k + j : Nat) : Int) := by rw [IntWalk.i64_in _ (by omega)]; omega
        by_cases hin : k + j < 8 ∧ g[k + j]? = some 0
        · obtain ⟨hin, hx⟩ := hin
          have hj1 := (zerosAt_step (by rw [HZ.out]; exact hj) hx).1 rfl
          rw [HZ.out] at hj1
          have hcx := HC.out (k + j) 0 hx
          have d1 : decide (((k + j : Nat) : Int) < 8) = true := by simp; omega
          have n0 : (0 : Int) ≤ ((k + j : Nat) : Int) := by omega
          have n1 : ((k + j : Nat) : Int) < 8 := by omega
          have n2 : ((k + j : Nat) : Int).toNat = k + j := by omega
          clear hx
          go_wp2
          go_roundw
          case rel => exact ⟨j + 1, hj1, by go_num, by first | rfl | trivial⟩
          case measure => simp [RowKit.intOf]; omega
        · have HZJ : Hid (Z = j) := by
            show _ = _
            rw [← HZ.out]
            by_cases h8 : k + j < 8
            · obtain ⟨x, hx⟩ : ∃ x, g[k + j]? = some x := ⟨_, List.getElem?_eq_getElem (by rw [HLN.out]; omega)⟩
              refine (zerosAt_step (by rw [HZ.out]; exact hj) hx).2 fun h0 => hin ⟨h8, by rw [hx, h0]⟩
            · exact zerosAt_end (by rw [HZ.out]; exact hj) (by rw [HLN.out]; omega)
          have HST2 : Hid (runR g (k + 1) = if M < j then ((k : Int), j) else (F, M)) := by show _ = _; rw [HST.out, HZJ.out]
          have HK : Hid (∀ (F' : Int) (M' : Nat), runR g (k + 1) = (F', M') → ∃ k_1 : Nat, k_1 ≤ 8 ∧ Value.int .i64 ((k : Int) + 1) = .int .i64 k_1 ∧ Value.int .i64 F' = .int .i64 (runR g k_1).1 ∧ Value.int .i64 (M' : Int) = .int .i64 (runR g k_1).2 ∧ True) := fun F' M' h => ⟨k + 1, by omega, by go_num, by rw [h], by rw [h], trivial⟩
          have HMM : Hid (8 - (RowKit.intOf (Value.int .i64 ((k : Int) + 1))).toNat < 8 - (RowKit.intOf (Value.int .i64 (k : Int))).toNat) := by show _ < _; simp [RowKit.intOf]; omega
          clear HST HZ
          by_cases hM : M < j
          · have HST3 : Hid (runR g (k + 1) = ((k : Int), j)) := by show _ = _; rw [HST2.out, if_pos hM]
            have dM : decide (M < j) = true := by simpa using hM
            by_cases h8 : k + j < 8
            · obtain ⟨x, hx⟩ : ∃ x, g[k + j]? = some x := ⟨_, List.getElem?_eq_getElem (by rw [HLN.out]; omega)⟩
              have dx : (x == 0) = false := by simp; exact fun h0 => hin ⟨h8, by rw [hx, h0]⟩
              have dx2 : ¬ x = 0 := by simpa using dx
              have hcx := HC.out (k + j) x hx
              have d1 : decide (((k + j : Nat) : Int) < 8) = true := by simp; omega
              have n0 : (0 : Int) ≤ ((k + j : Nat) : Int) := by omega
              have n1 : ((k + j : Nat) : Int) < 8 := by omega
              have n2 : ((k + j : Nat) : Int).toNat = k + j := by omega
              clear hx hin HZJ HST2
              go_wp2
              exact ⟨HK.out _ _ HST3.out, HMM.out⟩
            · have d1 : decide (((k + j : Nat) : Int) < 8) = false := by simp; omega
              clear hin HZJ HST2
              go_wp2
              exact ⟨HK.out _ _ HST3.out, HMM.out⟩
          · have HST3 : Hid (runR g (k + 1) = (F, M)) := by show _ = _; rw [HST2.out, if_neg hM]
            have dM : decide (M < j) = false := by simpa using hM
            by_cases h8 : k + j < 8
            · obtain ⟨x, hx⟩ : ∃ x, g[k + j]? = some x := ⟨_, List.getElem?_eq_getElem (by rw [HLN.out]; omega)⟩
              have dx : (x == 0) = false := by simp; exact fun h0 => hin ⟨h8, by rw [hx, h0]⟩
              have dx2 : ¬ x = 0 := by simpa using dx
              have hcx := HC.out (k + j) x hx
              have d1 : decide (((k + j : Nat) : Int) < 8) = true := by simp; omega
              have n0 : (0 : Int) ≤ ((k + j : Nat) : Int) := by omega
              have n1 : ((k + j : Nat) : Int) < 8 := by omega
              have n2 : ((k + j : Nat) : Int).toNat = k + j := by omega
              clear hx hin HZJ HST2
              go_wp2
              exact ⟨HK.out _ _ HST3.out, HMM.out⟩
            · have d1 : decide (((k + j : Nat) : Int) < 8) = false := by simp; omega
              clear hin HZJ HST2
              go_wp2
              exact ⟨HK.out _ _ HST3.out, HMM.out⟩
    · obtain rfl : k = 8 := by omega
      rw [HFM.out] at HTS
      have hRL := HRL.out
      simp only at HTS
      obtain ⟨F2, hF2⟩ : ∃ F2 : Nat, (if F < 0 then 8 else F.toNat) = F2 := ⟨_, rfl⟩
      rw [hF2] at HTS
      have hF2b : (-1 ≤ F ∧ F ≤ 8 ∧ M ≤ 9) ∧ (F < 0 → F2 = 8 ∧ M = 1) ∧ (0 ≤ F → (F2 : Int) = F ∧ 2 ≤ M ∧ F2 + M ≤ 8) := by
        rw [← hF2]
        obtain ⟨q1, q2, q3, q4, q5⟩ := hRL
        refine ⟨by omega, ?_, ?_⟩
        · intro h; rw [if_pos h]; exact ⟨rfl, q5 h⟩
        · intro h; rw [if_neg (by omega)]; have := q4 h; omega
      have HF2 := Lib.hid hF2b
      clear hF2 hRL HRL HFM HST hF2b
      rw [show ((8 : Nat) : Int) = 8 from rfl]
      go_wp2
      obtain ⟨W2, rfl⟩ : ∃ W2 : World, W2 = wr := ⟨_, rfl⟩
      go_loopw [12, 4] (fun i s wr => ∃ k : Nat, k ≤ 8 ∧ i = .int .i64 k ∧ s = .string ⟨(partT l F2 M k).toArray⟩ ∧ Hid (k ≤ F2 ∨ F2 + M ≤ k) ∧ Hid (Below W2.heap.size W2 wr)) (fun i _ _ => 8 - (RowKit.intOf i).toNat)
      case atStart => exact ⟨0, by omega, rfl, by rw [partT_zero], .inl (Nat.zero_le _), Below.refl _ _⟩
      case round =>
        obtain ⟨k, hk, rfl, rfl, hv, hb⟩ := hrel
        obtain ⟨wo, rfl⟩ : ∃ wo : World, wo = wr := ⟨_, rfl⟩
        have hs := hb.out.size
        have hF2b := HF2.out
        have hvv := hv.out
        by_cases hlt : k < 8
        · have dk : decide ((k : Int) < 8) = true := by simp; omega
          have hla : (partT l F2 M k).length ≤ 100 := partT_len l F2 M k HLB.out HLL.out
          have wfm : IntKind.i64.wrap (F + (M : Int)) = F + (M : Int) := by rw [IntWalk.i64_in _ (by omega)]
          by_cases hkF : (k : Int) = F
          · have hk2 : F2 = k := by omega
            subst hkF
            have HST := Lib.hid (partT_at l F2 M (by omega))
            rw [hk2] at HST hla ⊢
            have HV : Hid (k + M ≤ k ∨ k + M ≤ k + M) := Lib.hid (.inr (Nat.le_refl _))
            have w1' : IntKind.i64.wrap ((M : Int) - 1) = (M : Int) - 1 := by rw [IntWalk.i64_in _ (by omega)]
            have w2' : IntKind.i64.wrap ((k : Int) + ((M : Int) - 1)) = (k : Int) + ((M : Int) - 1) := by rw [IntWalk.i64_in _ (by omega)]
            have w3' : IntKind.i64.wrap ((k : Int) + ((M : Int) - 1) + 1) = (k : Int) + ((M : Int) - 1) + 1 := by rw [IntWalk.i64_in _ (by omega)]
            have hkm : k + M ≤ 8 ∧ 2 ≤ M := by omega
            obtain ⟨ta, hta⟩ : ∃ ta, partT l k M k = ta := ⟨_, rfl⟩
            rw [hta] at HST
            rw [hta] at hla ⊢
            clear hF2b hvv hta
            go_wp2
            go_roundw
            case rel => exact ⟨k + M, by omega, by congr 1; omega, by rw [HST.out]; simp [ByteArray.mk_append_mk], HV, hb.out⟩
            case measure => simp [RowKit.intOf]; omega
          · obtain ⟨x, hx⟩ : ∃ x, g[k]? = some x := ⟨_, List.getElem?_eq_getElem (by rw [HLN.out]; omega)⟩
            have hxr := HLT.out x (List.mem_of_getElem? hx)
            obtain ⟨u, rfl⟩ : ∃ u : Nat, x = u := ⟨x.toNat, by omega⟩
            have q0 := (hb.out.cell (p := ab.add k) (by rw [block_of_add]; exact HABL.out)).trans (HC.out k _ hx)
            have hlk : l[k]? = some (numT 16 u) := by rw [HLX.out, List.getElem?_map, hx]; simp
            have hpos : k < F2 ∨ F2 + M ≤ k := by omega
            have HST := Lib.hid (partT_step hlk hpos (by omega))
            have HV : Hid (k + 1 ≤ F2 ∨ F2 + M ≤ k + 1) := Lib.hid (by omega)
            have hlb : (numT 16 u).length ≤ 4 := HLB.out _ (List.mem_of_getElem? hlk)
            have CC := Lib.hid (fun W => CN.out u (by omega) W)
            obtain ⟨ta, hta⟩ : ∃ ta, partT l F2 M k = ta := ⟨_, rfl⟩
            obtain ⟨tb, htb⟩ : ∃ tb, numT 16 u = tb := ⟨_, rfl⟩
            rw [hta, htb] at HST
            rw [hta] at hla ⊢
            rw [htb] at hlb CC
            have d1 : ((k : Int) == F) = false := by simpa using hkF
            clear hx hlk hta htb hvv
            by_cases h0 : 0 < k
            · by_cases hFM' : k = F2 + M
              · skip
                rw [if_neg (by omega)] at HST
                have d2 : decide (0 < k) = true := by simpa using h0
                have wfk : IntKind.i64.wrap (F + (M : Int)) = (k : Int) := by rw [wfm]; omega
                clear wfm
                have d5 : decide (F < 0) = false := by simp; omega
                have d6 : ¬ F < 0 := by omega
                clear hFM' hF2b
                go_wp2_with fail
                refine (CC.out _).mono ?_
                rintro e w4 ⟨rfl, hb4⟩
                have HB4 := Lib.hid (below_step hb.out hb4)
                clear hb4 CC
                go_wp2
                go_roundw
                case rel => exact ⟨k + 1, by omega, by go_num, by rw [HST.out]; simp [ByteArray.mk_append_mk], HV.out, HB4.out⟩
                case measure => simp [RowKit.intOf]; omega
              · skip
                have hc : 0 < k ∧ ¬ k = F2 + M := ⟨h0, hFM'⟩
                rw [if_pos hc] at HST
                have d2 : decide (0 < k) = true := by simpa using h0
                have d3 : ((k : Int) == F + (M : Int)) = false := by simp; omega
                have d4 : ¬ (k : Int) = F + (M : Int) := by omega
                clear hc hFM' hF2b
                go_wp2_with fail
                refine (CC.out _).mono ?_
                rintro e w4 ⟨rfl, hb4⟩
                have HB4 := Lib.hid (below_step hb.out hb4)
                clear hb4 CC
                go_wp2
                go_roundw
                case rel => exact ⟨k + 1, by omega, by go_num, by rw [HST.out]; simp [ByteArray.mk_append_mk], HV.out, HB4.out⟩
                case measure => simp [RowKit.intOf]; omega
            · skip
              rw [if_neg (by omega)] at HST
              have d2 : decide (0 < k) = false := by simpa using h0
              have d2' : ¬ 0 < k := h0
              clear hF2b
              go_wp2_with fail
              refine (CC.out _).mono ?_
              rintro e w4 ⟨rfl, hb4⟩
              have HB4 := Lib.hid (below_step hb.out hb4)
              clear hb4 CC
              go_wp2
              go_roundw
              case rel => exact ⟨k + 1, by omega, by go_num, by rw [HST.out]; simp [ByteArray.mk_append_mk], HV.out, HB4.out⟩
              case measure => simp [RowKit.intOf]; omega
        · obtain rfl : k = 8 := by omega
          rw [← HTS.out]
          go_wp2
          refine bodyPost_ret (v := .tuple #[.string ⟨ft.toArray⟩, .int .i64 0]) ?_ rfl ⟨rfl, HB2.out.trans (hb.out.mono (Nat.le_trans (Nat.le_of_lt s1) s2))⟩
          simp [results, Tryd.results17, go_sem]

end Go.Proofs.YtpecpodchkglkaaDoor

namespace Go.Proofs.YtpecpodchkglkaaDoor
open Go.ChangeShapes Go.WideShapes Go.ChangeAt Go.RowKit

def addrTxt (six : Bool) (hi lo : Int) : List UInt8 := if six then sixT (gps hi lo) (runP (gps hi lo) 8).1 (runP (gps hi lo) 8).2 else fourT (octs4 ⟨false, hi, lo⟩)
def txtL (six : Bool) (hi lo : Int) : List UInt8 := if mayB six hi lo then addrTxt six hi lo else []
def txtE (six : Bool) (hi lo : Int) : Int := if mayB six hi lo then 0 else 4
/-- A text, and a code. -/
def RetTxt (w : World) (l : List UInt8) (E : Int) (e : Ending) (w' : World) : Prop := e = .returned (.tuple #[.string ⟨l.toArray⟩, .int .i64 E]) ∧ Below w.heap.size w w'

set_option maxRecDepth 100000 in
set_option maxHeartbeats 800000 in
theorem text_any {w : World} (six : Bool) (hi lo : Int) (h1 : 0 ≤ hi ∧ hi < 18446744073709551616) (h2 : 0 ≤ lo ∧ lo < 18446744073709551616) (ht : Tabs w) :
    Calls Tryd.prog 16 #[.agg #[.bool six, .int .u64 hi, .int .u64 lo]] w (RetTxt w (txtL six hi lo) (txtE six hi lo)) := by
  have CM := Lib.hid (fun (W : World) => may_any six hi lo W h2.1)
  have CO : Hid (∀ W : World, Below w.heap.size w W → Calls Tryd.prog 40 #[.agg #[.bool six, .int .u64 hi, .int .u64 lo]] W fun e w' => e = .returned (.string ⟨(addrTxt six hi lo).toArray⟩) ∧ Below W.heap.size W w') := by
    refine Lib.hid fun W hb => ?_
    cases six
    · exact of4_any hi lo h2 (ht.below hb)
    · exact of6_any hi lo h1 h2 (ht.below hb)
  obtain ⟨post, hpost⟩ : ∃ post, RetTxt w (txtL six hi lo) (txtE six hi lo) = post := ⟨_, rfl⟩
  rw [hpost]
  unfold txtL txtE at hpost
  have HP := Lib.hid hpost
  obtain ⟨m, hm⟩ : ∃ m, mayB six hi lo = m := ⟨_, rfl⟩
  rw [hm] at CM HP
  clear hpost ht hm
  cases m with
  | false =>
    go_enter Tryd.func16, Tryd.ntmps16
    go_wp2_with fail
    refine (CM.out _).mono ?_
    rintro e w1 ⟨rfl, hb1⟩
    have HB1 := Lib.hid (balloc1 hb1)
    clear hb1
    go_wp2
    rw [← HP.out]
    exact ⟨rfl, HB1.out⟩
  | true =>
    go_enter Tryd.func16, Tryd.ntmps16
    go_wp2_with fail
    refine (CM.out _).mono ?_
    rintro e w1 ⟨rfl, hb1⟩
    obtain ⟨fc1, ff1⟩ := bcell hb1
    have s1 := bsize1 hb1
    have HB1 := Lib.hid (balloc1 hb1)
    clear hb1
    go_wp2_with fail
    refine (CO.out _ HB1.out).mono ?_
    rintro e w2 ⟨rfl, hb2⟩
    have HB2 := Lib.hid (below_step HB1.out hb2)
    clear hb2
    go_wp2
    rw [← HP.out]
    exact ⟨rfl, HB2.out⟩

set_option maxRecDepth 100000 in
set_option maxHeartbeats 800000 in
theorem refText_any {w : World} (six : Bool) (hi lo : Int) (h1 : 0 ≤ hi ∧ hi < 18446744073709551616) (h2 : 0 ≤ lo ∧ lo < 18446744073709551616) :
    Calls Tryd.prog 17 #[.agg #[.bool six, .int .u64 hi, .int .u64 lo]] w (RetTxt w (txtL six hi lo) (txtE six hi lo)) := by
  by_cases hm : mayB six hi lo = true
  · unfold txtL txtE addrTxt
    rw [if_pos hm, if_pos hm]
    cases six
    · exact refTxt4_any hi lo w ⟨h1, h2, hm⟩
    · exact refTxt6_any hi lo w ⟨h1, h2, hm⟩
  · have hm2 : mayB six hi lo = false := by simpa using hm
    have CM := Lib.hid (fun (W : World) => refMay_any six hi lo W h2.1)
    rw [hm2] at CM
    obtain ⟨post, hpost⟩ : ∃ post, RetTxt w (txtL six hi lo) (txtE six hi lo) = post := ⟨_, rfl⟩
    rw [hpost]
    unfold txtL txtE at hpost
    rw [hm2] at hpost
    have HP := Lib.hid hpost
    clear hpost hm hm2
    go_enter Tryd.func17, Tryd.ntmps17
    go_wp2_with fail
    refine (CM.out _).mono ?_
    rintro e w1 ⟨rfl, hb1⟩
    have HB1 := Lib.hid (balloc1 hb1)
    clear hb1
    go_wp2
    rw [← HP.out]
    exact ⟨rfl, HB1.out⟩

end Go.Proofs.YtpecpodchkglkaaDoor

namespace Go.Proofs.YtpecpodchkglkaaDoor
open Go.ChangeShapes Go.WideShapes Go.ChangeAt Go.RowKit

set_option maxRecDepth 100000 in
set_option maxHeartbeats 800000 in
theorem addrTexts_any {w : World} (six : Bool) (hi lo : Int) (h1 : 0 ≤ hi ∧ hi < 18446744073709551616) (h2 : 0 ≤ lo ∧ lo < 18446744073709551616) (ht : Tabs w) :
    Calls Tryd.prog 4 #[.agg #[.bool six, .int .u64 hi, .int .u64 lo]] w fun e w' => e = .returned (.bool true) ∧ Below w.heap.size w w' := by
  have CT := Lib.hid (fun (W : World) (hb : Below w.heap.size w W) => text_any six hi lo h1 h2 (ht.below hb))
  have CR := Lib.hid (fun (W : World) => refText_any (w := W) six hi lo h1 h2)
  have HB0 : Hid (Below w.heap.size w (w.alloc (.cells #[.bool six, .int .u64 hi, .int .u64 lo] 36))) := (Below.refl _ _).alloc (Nat.le_refl _) _
  obtain ⟨l, hl⟩ : ∃ l, txtL six hi lo = l := ⟨_, rfl⟩
  obtain ⟨E, hE⟩ : ∃ E, txtE six hi lo = E := ⟨_, rfl⟩
  rw [hl, hE] at CT CR
  unfold RetTxt at CT CR
  clear hl hE ht
  go_enter Tryd.func4, Tryd.ntmps4
  go_wp2_with fail
  refine (CT.out _ HB0.out).mono ?_
  rintro e w1 ⟨rfl, hb1⟩
  obtain ⟨fc1, ff1⟩ := bcell hb1
  have s1 := bsize1 hb1
  have HB1 := Lib.hid (balloc1 hb1)
  clear hb1
  go_wp2_with fail
  refine (CR.out _).mono ?_
  rintro e w2 ⟨rfl, hb2⟩
  have HB2 := Lib.hid (below_step HB1.out hb2)
  clear hb2
  go_wp2
  go_ret
  exact ⟨by simp, HB2.out⟩

theorem addrTexts_pow : (Rows.addrTextsRow.laid).filter (fun x => x.1 == "internal/strconv.uint64pow10") = [("internal/strconv.uint64pow10", Rows.laid_internal_strconv_uint64pow10)] := by
  unfold Rows.addrTextsRow
  simp only [List.filter]
  rfl
theorem addrTexts_bru : (Rows.addrTextsRow.laid).filter (fun x => x.1 == "math/bits.deBruijn64tab") = [("math/bits.deBruijn64tab", Rows.laid_math_bits_deBruijn64tab)] := by
  unfold Rows.addrTextsRow
  simp only [List.filter]
  rfl
set_option maxRecDepth 100000 in
theorem addrTexts_walk {H : Type} {enc : TypeId × Value → H} (W : World) (vs : Array Value) (ds : List (DataW H)) (ps : List MemPlace)
    (h : ArgsOk Tryd.prog [36] H enc W vs.toList ds ps) (hL : laidMetH Tryd.prog Rows.addrTextsRow.laid W) :
    Calls Tryd.prog 4 vs W fun e W' => e = .returned (.bool true) ∧ Below W.heap.size W W' := by
  obtain ⟨hA, ⟨base, hval⟩, _, _⟩ := h
  obtain ⟨v0, d0, e0, _, h0⟩ := trodAll_one hA
  obtain ⟨six, hi, lo, rfl, b1, b2⟩ := open_addr (hval 0 _ v0 rfl (by rw [e0]; rfl)) h0
  obtain rfl : vs = #[.agg #[.bool six, .int .u64 hi, .int .u64 lo]] := by cases vs; simp_all
  exact addrTexts_any six hi lo b1 b2 (tabs_of_laid hL addrTexts_pow addrTexts_bru)

end Go.Proofs.YtpecpodchkglkaaDoor
