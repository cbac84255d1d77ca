/-
  No cell of these rows narrows 'for every input' (looked for: loops, veiled, ifaces, maps, wideKeys, modest, calm, conditions, laid).
  DERIVED. THE GIVEN ROWS OF THIS SEAT. 12 by the template 'for every input the law returns true; each argument reads behind the call as it read before'; 0 by the template 'total and deterministic' (their statements: YtaeideeimhenmaaTotals.lean).
  GIVEN WITH THE SEED: the statements are not yours to turn. If you find one false, say at which input.
  Laid BY PROGRAM, IN A SANDBOX (cutbox-rows.mjs): the forced cells as the released guide's own fill.sh prints them over the translation 0fc11b248f5b94bf… (all of the seat's roots in one cut). By AI agents, Wed Nov 11 2026. No macro, syntax, notation, axiom, sorry.
-/
import Derived.Test.YtaeideeimhenmaaChecked
import GoSem.Claim
import GoSem.ClaimJoined
import GoSem.ClaimMapViews
import Derived.JoinedTies
import Derived.KernelRfl
namespace Go.Proofs.Ytaeideeimhenmaa
/- THE CELL 'sum', in the pinned program and in every row, IS THE sha256 OF THE DUMP (.gsa) THAT YtaeideeimhenmaaProg.lean LOADS. Nothing in Lean hashes anything: it is a label: what it is worth is what the hold of that sum in a sandbox is worth. -/
noncomputable def Try.pinned : Pinned := { name := "ytaeideeimhenmaa", sum := "0fc11b248f5b94bff9b8c0b42742a435123bcddaa03a775c91e70aa66fb90309", checked := Try.checked }
namespace Rows
def none {H : Type} : Left H := { results := [], args := [] }

/-- 'whipcordlaw.Names': WHATEVER THE INPUT: true; the input reads as it did. -/
def namesSpec : ChangeSpec := { name := "names", fn := fun _ => fun
  | [] => { results := [.lit (.bool true)], args := [] }
  | _ => none }
def namesRow : OpenClaim := { program := "ytaeideeimhenmaa", sum := "0fc11b248f5b94bff9b8c0b42742a435123bcddaa03a775c91e70aa66fb90309", func := "whipcord/whipcordlaw.Names", spec := "names", apart := false }
def NamesSaid : Prop := namesRow.holds Try.pinned (OpenSpec.ofChange namesSpec)

/-- ITS FALSE NEIGHBOUR: 'it returns false'. Refute it at one input. -/
def namesWrong : ChangeSpec := { name := "names", fn := fun _ => fun
  | [] => { results := [.lit (.bool false)], args := [] }
  | _ => none }
def NamesWrongFalsely : Prop := namesRow.holds Try.pinned (OpenSpec.ofChange namesWrong)

/-- 'whipcordlaw.AddrMays': WHATEVER THE INPUT: true; the input reads as it did. -/
def addrMaysSpec : ChangeSpec := { name := "addrMays", fn := fun _ => fun
  | [d] => { results := [.lit (.bool true)], args := [d] }
  | _ => none }
def addrMaysRow : OpenClaim := { program := "ytaeideeimhenmaa", sum := "0fc11b248f5b94bff9b8c0b42742a435123bcddaa03a775c91e70aa66fb90309", func := "whipcord/whipcordlaw.AddrMays", spec := "addrMays", apart := false }
def AddrMaysSaid : Prop := addrMaysRow.holds Try.pinned (OpenSpec.ofChange addrMaysSpec)

/-- ITS FALSE NEIGHBOUR: 'it returns false'. Refute it at one input. -/
def addrMaysWrong : ChangeSpec := { name := "addrMays", fn := fun _ => fun
  | [d] => { results := [.lit (.bool false)], args := [d] }
  | _ => none }
def AddrMaysWrongFalsely : Prop := addrMaysRow.holds Try.pinned (OpenSpec.ofChange addrMaysWrong)

/-- 'whipcordlaw.ImageSums': WHATEVER THE INPUT: true; the input reads as it did. -/
def imageSumsSpec : ChangeSpec := { name := "imageSums", fn := fun _ => fun
  | [d] => { results := [.lit (.bool true)], args := [d] }
  | _ => none }
def imageSumsRow : OpenClaim := { program := "ytaeideeimhenmaa", sum := "0fc11b248f5b94bff9b8c0b42742a435123bcddaa03a775c91e70aa66fb90309", func := "whipcord/whipcordlaw.ImageSums", spec := "imageSums", apart := false }
def ImageSumsSaid : Prop := imageSumsRow.holds Try.pinned (OpenSpec.ofChange imageSumsSpec)

/-- ITS FALSE NEIGHBOUR: 'it returns false'. Refute it at one input. -/
def imageSumsWrong : ChangeSpec := { name := "imageSums", fn := fun _ => fun
  | [d] => { results := [.lit (.bool false)], args := [d] }
  | _ => none }
def ImageSumsWrongFalsely : Prop := imageSumsRow.holds Try.pinned (OpenSpec.ofChange imageSumsWrong)

/-- 'whipcordlaw.AddrBits': WHATEVER THE INPUT: true; the input reads as it did. -/
def addrBitsSpec : ChangeSpec := { name := "addrBits", fn := fun _ => fun
  | [d1, d2] => { results := [.lit (.bool true)], args := [d1, d2] }
  | _ => none }
def addrBitsRow : OpenClaim := { program := "ytaeideeimhenmaa", sum := "0fc11b248f5b94bff9b8c0b42742a435123bcddaa03a775c91e70aa66fb90309", func := "whipcord/whipcordlaw.AddrBits", spec := "addrBits", apart := false }
def AddrBitsSaid : Prop := addrBitsRow.holds Try.pinned (OpenSpec.ofChange addrBitsSpec)

/-- ITS FALSE NEIGHBOUR: 'it returns false'. Refute it at one input. -/
def addrBitsWrong : ChangeSpec := { name := "addrBits", fn := fun _ => fun
  | [d1, d2] => { results := [.lit (.bool false)], args := [d1, d2] }
  | _ => none }
def AddrBitsWrongFalsely : Prop := addrBitsRow.holds Try.pinned (OpenSpec.ofChange addrBitsWrong)

/-- 'whipcordlaw.ShareChecks': WHATEVER THE INPUT: true; the input reads as it did. -/
def shareChecksSpec : ChangeSpec := { name := "shareChecks", fn := fun _ => fun
  | [d] => { results := [.lit (.bool true)], args := [d] }
  | _ => none }
def shareChecksRow : OpenClaim := { program := "ytaeideeimhenmaa", sum := "0fc11b248f5b94bff9b8c0b42742a435123bcddaa03a775c91e70aa66fb90309", func := "whipcord/whipcordlaw.ShareChecks", spec := "shareChecks", unfollowed := true, recurses := true, apart := false }
def ShareChecksSaid : Prop := shareChecksRow.holds Try.pinned (OpenSpec.ofChange shareChecksSpec)

/-- ITS FALSE NEIGHBOUR: 'it returns false'. Refute it at one input. -/
def shareChecksWrong : ChangeSpec := { name := "shareChecks", fn := fun _ => fun
  | [d] => { results := [.lit (.bool false)], args := [d] }
  | _ => none }
def ShareChecksWrongFalsely : Prop := shareChecksRow.holds Try.pinned (OpenSpec.ofChange shareChecksWrong)

/-- 'whipcordlaw.ViaChecks': WHATEVER THE INPUT: true; the input reads as it did. -/
def viaChecksSpec : ChangeSpec := { name := "viaChecks", fn := fun _ => fun
  | [d] => { results := [.lit (.bool true)], args := [d] }
  | _ => none }
def viaChecksRow : OpenClaim := { program := "ytaeideeimhenmaa", sum := "0fc11b248f5b94bff9b8c0b42742a435123bcddaa03a775c91e70aa66fb90309", func := "whipcord/whipcordlaw.ViaChecks", spec := "viaChecks", apart := false }
def ViaChecksSaid : Prop := viaChecksRow.holds Try.pinned (OpenSpec.ofChange viaChecksSpec)

/-- ITS FALSE NEIGHBOUR: 'it returns false'. Refute it at one input. -/
def viaChecksWrong : ChangeSpec := { name := "viaChecks", fn := fun _ => fun
  | [d] => { results := [.lit (.bool false)], args := [d] }
  | _ => none }
def ViaChecksWrongFalsely : Prop := viaChecksRow.holds Try.pinned (OpenSpec.ofChange viaChecksWrong)

/-- 'whipcordlaw.PreChecks': WHATEVER THE INPUT: true; the input reads as it did. -/
def preChecksSpec : ChangeSpec := { name := "preChecks", fn := fun _ => fun
  | [d] => { results := [.lit (.bool true)], args := [d] }
  | _ => none }
def preChecksRow : OpenClaim := { program := "ytaeideeimhenmaa", sum := "0fc11b248f5b94bff9b8c0b42742a435123bcddaa03a775c91e70aa66fb90309", func := "whipcord/whipcordlaw.PreChecks", spec := "preChecks", unfollowed := true, recurses := true, apart := false }
def PreChecksSaid : Prop := preChecksRow.holds Try.pinned (OpenSpec.ofChange preChecksSpec)

/-- ITS FALSE NEIGHBOUR: 'it returns false'. Refute it at one input. -/
def preChecksWrong : ChangeSpec := { name := "preChecks", fn := fun _ => fun
  | [d] => { results := [.lit (.bool false)], args := [d] }
  | _ => none }
def PreChecksWrongFalsely : Prop := preChecksRow.holds Try.pinned (OpenSpec.ofChange preChecksWrong)

/-- 'whipcordlaw.SharePicks': WHATEVER THE INPUT: true; the input reads as it did. -/
def sharePicksSpec : ChangeSpec := { name := "sharePicks", fn := fun _ => fun
  | [d1, d2] => { results := [.lit (.bool true)], args := [d1, d2] }
  | _ => none }
def sharePicksRow : OpenClaim := { program := "ytaeideeimhenmaa", sum := "0fc11b248f5b94bff9b8c0b42742a435123bcddaa03a775c91e70aa66fb90309", func := "whipcord/whipcordlaw.SharePicks", spec := "sharePicks", unfollowed := true, recurses := true, apart := false }
def SharePicksSaid : Prop := sharePicksRow.holds Try.pinned (OpenSpec.ofChange sharePicksSpec)

/-- ITS FALSE NEIGHBOUR: 'it returns false'. Refute it at one input. -/
def sharePicksWrong : ChangeSpec := { name := "sharePicks", fn := fun _ => fun
  | [d1, d2] => { results := [.lit (.bool false)], args := [d1, d2] }
  | _ => none }
def SharePicksWrongFalsely : Prop := sharePicksRow.holds Try.pinned (OpenSpec.ofChange sharePicksWrong)

/-- 'whipcordlaw.AddrNexts': WHATEVER THE INPUT: true; the input reads as it did. -/
def addrNextsSpec : ChangeSpec := { name := "addrNexts", fn := fun _ => fun
  | [d1, d2] => { results := [.lit (.bool true)], args := [d1, d2] }
  | _ => none }
def addrNextsRow : OpenClaim := { program := "ytaeideeimhenmaa", sum := "0fc11b248f5b94bff9b8c0b42742a435123bcddaa03a775c91e70aa66fb90309", func := "whipcord/whipcordlaw.AddrNexts", spec := "addrNexts", inPlace := ["math/bits.Add64", "math/bits.Sub64"], apart := false }
def AddrNextsSaid : Prop := addrNextsRow.holds Try.pinned (OpenSpec.ofChange addrNextsSpec)

/-- ITS FALSE NEIGHBOUR: 'it returns false'. Refute it at one input. -/
def addrNextsWrong : ChangeSpec := { name := "addrNexts", fn := fun _ => fun
  | [d1, d2] => { results := [.lit (.bool false)], args := [d1, d2] }
  | _ => none }
def AddrNextsWrongFalsely : Prop := addrNextsRow.holds Try.pinned (OpenSpec.ofChange addrNextsWrong)

/-- 'whipcordlaw.PreHas': WHATEVER THE INPUT: true; the input reads as it did. -/
def preHasSpec : ChangeSpec := { name := "preHas", fn := fun _ => fun
  | [d1, d2] => { results := [.lit (.bool true)], args := [d1, d2] }
  | _ => none }
def preHasRow : OpenClaim := { program := "ytaeideeimhenmaa", sum := "0fc11b248f5b94bff9b8c0b42742a435123bcddaa03a775c91e70aa66fb90309", func := "whipcord/whipcordlaw.PreHas", spec := "preHas", unfollowed := true, recurses := true, apart := false }
def PreHasSaid : Prop := preHasRow.holds Try.pinned (OpenSpec.ofChange preHasSpec)

/-- ITS FALSE NEIGHBOUR: 'it returns false'. Refute it at one input. -/
def preHasWrong : ChangeSpec := { name := "preHas", fn := fun _ => fun
  | [d1, d2] => { results := [.lit (.bool false)], args := [d1, d2] }
  | _ => none }
def PreHasWrongFalsely : Prop := preHasRow.holds Try.pinned (OpenSpec.ofChange preHasWrong)

/-- 'whipcordlaw.OfferChecks': WHATEVER THE INPUT: true; the input reads as it did. -/
def offerChecksSpec : ChangeSpec := { name := "offerChecks", fn := fun _ => fun
  | [d] => { results := [.lit (.bool true)], args := [d] }
  | _ => none }
def offerChecksRow : OpenClaim := { program := "ytaeideeimhenmaa", sum := "0fc11b248f5b94bff9b8c0b42742a435123bcddaa03a775c91e70aa66fb90309", func := "whipcord/whipcordlaw.OfferChecks", spec := "offerChecks", unfollowed := true, recurses := true, apart := false }
def OfferChecksSaid : Prop := offerChecksRow.holds Try.pinned (OpenSpec.ofChange offerChecksSpec)

/-- ITS FALSE NEIGHBOUR: 'it returns false'. Refute it at one input. -/
def offerChecksWrong : ChangeSpec := { name := "offerChecks", fn := fun _ => fun
  | [d] => { results := [.lit (.bool false)], args := [d] }
  | _ => none }
def OfferChecksWrongFalsely : Prop := offerChecksRow.holds Try.pinned (OpenSpec.ofChange offerChecksWrong)

/-- 'whipcordlaw.PreSpans': WHATEVER THE INPUT: true; the input reads as it did. -/
def preSpansSpec : ChangeSpec := { name := "preSpans", fn := fun _ => fun
  | [d] => { results := [.lit (.bool true)], args := [d] }
  | _ => none }
def preSpansRow : OpenClaim := { program := "ytaeideeimhenmaa", sum := "0fc11b248f5b94bff9b8c0b42742a435123bcddaa03a775c91e70aa66fb90309", func := "whipcord/whipcordlaw.PreSpans", spec := "preSpans", unfollowed := true, recurses := true, apart := false }
def PreSpansSaid : Prop := preSpansRow.holds Try.pinned (OpenSpec.ofChange preSpansSpec)

/-- ITS FALSE NEIGHBOUR: 'it returns false'. Refute it at one input. -/
def preSpansWrong : ChangeSpec := { name := "preSpans", fn := fun _ => fun
  | [d] => { results := [.lit (.bool false)], args := [d] }
  | _ => none }
def PreSpansWrongFalsely : Prop := preSpansRow.holds Try.pinned (OpenSpec.ofChange preSpansWrong)

/- THE SECOND FORM. 'bulk': how many values and letters a reading holds, each counted each time it is reached (what is shared counts as often as it is met; a slice's spare places count too). A statement '..UptoSaid' is the law's where the arguments, and the package variables that the reading takes, are together of bulk at most 1048576: NARROWER than '..Said'. Prove '..Said' where nothing that the law and all that it calls make is longer than what came in: it says more and counts as full. Else prove '..UptoSaid'. A law counts once. -/
mutual
def uptoBulk {H : Type} : DataW H → Nat
  | .lit (.string bytes) => bytes.length + 1
  | .lit _ => 1
  | .nil => 1
  | .ptr d => uptoBulk d + 1
  | .slice elems spare => uptoBulkAll elems + uptoBulkAll spare + 1
  | .agg parts => uptoBulkAll parts + 1
  | .iface _ d => uptoBulk d + 1
  | .map entries => uptoBulkEntries entries + 1
  | .held _ => 1
def uptoBulkAll {H : Type} : List (DataW H) → Nat
  | [] => 0
  | d :: r => uptoBulk d + uptoBulkAll r
def uptoBulkEntries {H : Type} : List (Lit × DataW H) → Nat
  | [] => 0
  | x :: r => uptoBulkEntry x + uptoBulkEntries r
def uptoBulkEntry {H : Type} : Lit × DataW H → Nat
  | (.string bytes, d) => bytes.length + uptoBulk d + 1
  | (_, d) => uptoBulk d + 1
 end
def uptoSmall : (H : Type) → List (DataW H) → Bool := fun _ ds => decide (uptoBulkAll ds ≤ 1048576)
def OpenSpec.upto (s : _root_.Go.ChangeSpec) : _root_.Go.OpenSpec := { _root_.Go.OpenSpec.ofChange s with cond := some uptoSmall }

/-- 'whipcordlaw.Names', WHERE WHAT IT READS IS OF BULK AT MOST 1048576: true; the input reads as it did. -/
def namesUptoRow : OpenClaim := { program := "ytaeideeimhenmaa", sum := "0fc11b248f5b94bff9b8c0b42742a435123bcddaa03a775c91e70aa66fb90309", func := "whipcord/whipcordlaw.Names", spec := "names", apart := false, narrowed := true }
def NamesUptoSaid : Prop := namesUptoRow.holds Try.pinned (OpenSpec.upto namesSpec)

/-- 'whipcordlaw.AddrMays', WHERE WHAT IT READS IS OF BULK AT MOST 1048576: true; the input reads as it did. -/
def addrMaysUptoRow : OpenClaim := { program := "ytaeideeimhenmaa", sum := "0fc11b248f5b94bff9b8c0b42742a435123bcddaa03a775c91e70aa66fb90309", func := "whipcord/whipcordlaw.AddrMays", spec := "addrMays", apart := false, narrowed := true }
def AddrMaysUptoSaid : Prop := addrMaysUptoRow.holds Try.pinned (OpenSpec.upto addrMaysSpec)

/-- 'whipcordlaw.ImageSums', WHERE WHAT IT READS IS OF BULK AT MOST 1048576: true; the input reads as it did. -/
def imageSumsUptoRow : OpenClaim := { program := "ytaeideeimhenmaa", sum := "0fc11b248f5b94bff9b8c0b42742a435123bcddaa03a775c91e70aa66fb90309", func := "whipcord/whipcordlaw.ImageSums", spec := "imageSums", apart := false, narrowed := true }
def ImageSumsUptoSaid : Prop := imageSumsUptoRow.holds Try.pinned (OpenSpec.upto imageSumsSpec)

/-- 'whipcordlaw.AddrBits', WHERE WHAT IT READS IS OF BULK AT MOST 1048576: true; the input reads as it did. -/
def addrBitsUptoRow : OpenClaim := { program := "ytaeideeimhenmaa", sum := "0fc11b248f5b94bff9b8c0b42742a435123bcddaa03a775c91e70aa66fb90309", func := "whipcord/whipcordlaw.AddrBits", spec := "addrBits", apart := false, narrowed := true }
def AddrBitsUptoSaid : Prop := addrBitsUptoRow.holds Try.pinned (OpenSpec.upto addrBitsSpec)

/-- 'whipcordlaw.ShareChecks', WHERE WHAT IT READS IS OF BULK AT MOST 1048576: true; the input reads as it did. -/
def shareChecksUptoRow : OpenClaim := { program := "ytaeideeimhenmaa", sum := "0fc11b248f5b94bff9b8c0b42742a435123bcddaa03a775c91e70aa66fb90309", func := "whipcord/whipcordlaw.ShareChecks", spec := "shareChecks", unfollowed := true, recurses := true, apart := false, narrowed := true }
def ShareChecksUptoSaid : Prop := shareChecksUptoRow.holds Try.pinned (OpenSpec.upto shareChecksSpec)

/-- 'whipcordlaw.ViaChecks', WHERE WHAT IT READS IS OF BULK AT MOST 1048576: true; the input reads as it did. -/
def viaChecksUptoRow : OpenClaim := { program := "ytaeideeimhenmaa", sum := "0fc11b248f5b94bff9b8c0b42742a435123bcddaa03a775c91e70aa66fb90309", func := "whipcord/whipcordlaw.ViaChecks", spec := "viaChecks", apart := false, narrowed := true }
def ViaChecksUptoSaid : Prop := viaChecksUptoRow.holds Try.pinned (OpenSpec.upto viaChecksSpec)

/-- 'whipcordlaw.PreChecks', WHERE WHAT IT READS IS OF BULK AT MOST 1048576: true; the input reads as it did. -/
def preChecksUptoRow : OpenClaim := { program := "ytaeideeimhenmaa", sum := "0fc11b248f5b94bff9b8c0b42742a435123bcddaa03a775c91e70aa66fb90309", func := "whipcord/whipcordlaw.PreChecks", spec := "preChecks", unfollowed := true, recurses := true, apart := false, narrowed := true }
def PreChecksUptoSaid : Prop := preChecksUptoRow.holds Try.pinned (OpenSpec.upto preChecksSpec)

/-- 'whipcordlaw.SharePicks', WHERE WHAT IT READS IS OF BULK AT MOST 1048576: true; the input reads as it did. -/
def sharePicksUptoRow : OpenClaim := { program := "ytaeideeimhenmaa", sum := "0fc11b248f5b94bff9b8c0b42742a435123bcddaa03a775c91e70aa66fb90309", func := "whipcord/whipcordlaw.SharePicks", spec := "sharePicks", unfollowed := true, recurses := true, apart := false, narrowed := true }
def SharePicksUptoSaid : Prop := sharePicksUptoRow.holds Try.pinned (OpenSpec.upto sharePicksSpec)

/-- 'whipcordlaw.AddrNexts', WHERE WHAT IT READS IS OF BULK AT MOST 1048576: true; the input reads as it did. -/
def addrNextsUptoRow : OpenClaim := { program := "ytaeideeimhenmaa", sum := "0fc11b248f5b94bff9b8c0b42742a435123bcddaa03a775c91e70aa66fb90309", func := "whipcord/whipcordlaw.AddrNexts", spec := "addrNexts", inPlace := ["math/bits.Add64", "math/bits.Sub64"], apart := false, narrowed := true }
def AddrNextsUptoSaid : Prop := addrNextsUptoRow.holds Try.pinned (OpenSpec.upto addrNextsSpec)

/-- 'whipcordlaw.PreHas', WHERE WHAT IT READS IS OF BULK AT MOST 1048576: true; the input reads as it did. -/
def preHasUptoRow : OpenClaim := { program := "ytaeideeimhenmaa", sum := "0fc11b248f5b94bff9b8c0b42742a435123bcddaa03a775c91e70aa66fb90309", func := "whipcord/whipcordlaw.PreHas", spec := "preHas", unfollowed := true, recurses := true, apart := false, narrowed := true }
def PreHasUptoSaid : Prop := preHasUptoRow.holds Try.pinned (OpenSpec.upto preHasSpec)

/-- 'whipcordlaw.OfferChecks', WHERE WHAT IT READS IS OF BULK AT MOST 1048576: true; the input reads as it did. -/
def offerChecksUptoRow : OpenClaim := { program := "ytaeideeimhenmaa", sum := "0fc11b248f5b94bff9b8c0b42742a435123bcddaa03a775c91e70aa66fb90309", func := "whipcord/whipcordlaw.OfferChecks", spec := "offerChecks", unfollowed := true, recurses := true, apart := false, narrowed := true }
def OfferChecksUptoSaid : Prop := offerChecksUptoRow.holds Try.pinned (OpenSpec.upto offerChecksSpec)

/-- 'whipcordlaw.PreSpans', WHERE WHAT IT READS IS OF BULK AT MOST 1048576: true; the input reads as it did. -/
def preSpansUptoRow : OpenClaim := { program := "ytaeideeimhenmaa", sum := "0fc11b248f5b94bff9b8c0b42742a435123bcddaa03a775c91e70aa66fb90309", func := "whipcord/whipcordlaw.PreSpans", spec := "preSpans", unfollowed := true, recurses := true, apart := false, narrowed := true }
def PreSpansUptoSaid : Prop := preSpansUptoRow.holds Try.pinned (OpenSpec.upto preSpansSpec)

end Rows
end Go.Proofs.Ytaeideeimhenmaa
