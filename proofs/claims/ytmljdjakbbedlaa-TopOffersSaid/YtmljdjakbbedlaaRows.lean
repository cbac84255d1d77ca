/-
  No cell of these rows narrows 'for every input' (looked for: loops, veiled, ifaces, maps, wideKeys, modest, calm, conditions, laid).
  DERIVED. THE GIVEN ROWS OF THIS SEAT. 10 by the template 'for every input the law returns true; each argument reads behind the call as it read before'; 0 by the template 'total and deterministic' (their statements: YtmljdjakbbedlaaTotals.lean).
  GIVEN WITH THE SEED: the statements are not yours to turn. If you find one false, say at which input.
  Laid BY PROGRAM, IN A SANDBOX (cutbox-rows.mjs): the forced cells as the released guide's own fill.sh prints them over the translation 4796d419e0c2e737… (all of the seat's roots in one cut). By AI agents, Wed Nov 11 2026. No macro, syntax, notation, axiom, sorry.
-/
import Derived.Test.YtmljdjakbbedlaaChecked
import GoSem.Claim
import GoSem.ClaimJoined
import GoSem.ClaimMapViews
import Derived.JoinedTies
import Derived.KernelRfl
namespace Go.Proofs.Ytmljdjakbbedlaa
/- THE CELL 'sum', in the pinned program and in every row, IS THE sha256 OF THE DUMP (.gsa) THAT YtmljdjakbbedlaaProg.lean LOADS. Nothing in Lean hashes anything: it is a label: what it is worth is what the hold of that sum in a sandbox is worth. -/
noncomputable def Try.pinned : Pinned := { name := "ytmljdjakbbedlaa", sum := "4796d419e0c2e737834a5b7e2334561b8b36bfa3796b430be5aee32296b78de4", checked := Try.checked }
namespace Rows
def none {H : Type} : Left H := { results := [], args := [] }

/-- 'whipcordtop.TopOffers': WHATEVER THE INPUT: true; the input reads as it did. -/
def topOffersSpec : ChangeSpec := { name := "topOffers", fn := fun _ => fun
  | [d1, d2, d3] => { results := [.lit (.bool true)], args := [d1, d2, d3] }
  | _ => none }
def topOffersRow : OpenClaim := { program := "ytmljdjakbbedlaa", sum := "4796d419e0c2e737834a5b7e2334561b8b36bfa3796b430be5aee32296b78de4", func := "whipcord/whipcordtop.TopOffers", spec := "topOffers", unfollowed := true, recurses := true, plainKeys := false, apart := false }
def TopOffersSaid : Prop := topOffersRow.holds Try.pinned (OpenSpec.ofChange topOffersSpec)

/-- ITS FALSE NEIGHBOUR: 'it returns false'. Refute it at one input. -/
def topOffersWrong : ChangeSpec := { name := "topOffers", fn := fun _ => fun
  | [d1, d2, d3] => { results := [.lit (.bool false)], args := [d1, d2, d3] }
  | _ => none }
def TopOffersWrongFalsely : Prop := topOffersRow.holds Try.pinned (OpenSpec.ofChange topOffersWrong)

/-- 'whipcordlaw.StrideMakes': WHATEVER THE INPUT: true; the input reads as it did. -/
def strideMakesSpec : ChangeSpec := { name := "strideMakes", fn := fun _ => fun
  | [d] => { results := [.lit (.bool true)], args := [d] }
  | _ => none }
def strideMakesRow : OpenClaim := { program := "ytmljdjakbbedlaa", sum := "4796d419e0c2e737834a5b7e2334561b8b36bfa3796b430be5aee32296b78de4", func := "whipcord/whipcordlaw.StrideMakes", spec := "strideMakes", unfollowed := true, recurses := true, plainKeys := false, apart := false }
def StrideMakesSaid : Prop := strideMakesRow.holds Try.pinned (OpenSpec.ofChange strideMakesSpec)

/-- ITS FALSE NEIGHBOUR: 'it returns false'. Refute it at one input. -/
def strideMakesWrong : ChangeSpec := { name := "strideMakes", fn := fun _ => fun
  | [d] => { results := [.lit (.bool false)], args := [d] }
  | _ => none }
def StrideMakesWrongFalsely : Prop := strideMakesRow.holds Try.pinned (OpenSpec.ofChange strideMakesWrong)

/-- 'whipcordlaw.PairPlays': WHATEVER THE INPUT: true; the input reads as it did. -/
def pairPlaysSpec : ChangeSpec := { name := "pairPlays", fn := fun _ => fun
  | [d1, d2] => { results := [.lit (.bool true)], args := [d1, d2] }
  | _ => none }
def pairPlaysRow : OpenClaim := { program := "ytmljdjakbbedlaa", sum := "4796d419e0c2e737834a5b7e2334561b8b36bfa3796b430be5aee32296b78de4", func := "whipcord/whipcordlaw.PairPlays", spec := "pairPlays", unfollowed := true, recurses := true, plainKeys := false, apart := false }
def PairPlaysSaid : Prop := pairPlaysRow.holds Try.pinned (OpenSpec.ofChange pairPlaysSpec)

/-- ITS FALSE NEIGHBOUR: 'it returns false'. Refute it at one input. -/
def pairPlaysWrong : ChangeSpec := { name := "pairPlays", fn := fun _ => fun
  | [d1, d2] => { results := [.lit (.bool false)], args := [d1, d2] }
  | _ => none }
def PairPlaysWrongFalsely : Prop := pairPlaysRow.holds Try.pinned (OpenSpec.ofChange pairPlaysWrong)

/-- 'whipcordlaw.PairFreeds': WHATEVER THE INPUT: true; the input reads as it did. -/
def pairFreedsSpec : ChangeSpec := { name := "pairFreeds", fn := fun _ => fun
  | [d1, d2] => { results := [.lit (.bool true)], args := [d1, d2] }
  | _ => none }
def pairFreedsRow : OpenClaim := { program := "ytmljdjakbbedlaa", sum := "4796d419e0c2e737834a5b7e2334561b8b36bfa3796b430be5aee32296b78de4", func := "whipcord/whipcordlaw.PairFreeds", spec := "pairFreeds", unfollowed := true, recurses := true, plainKeys := false, apart := false }
def PairFreedsSaid : Prop := pairFreedsRow.holds Try.pinned (OpenSpec.ofChange pairFreedsSpec)

/-- ITS FALSE NEIGHBOUR: 'it returns false'. Refute it at one input. -/
def pairFreedsWrong : ChangeSpec := { name := "pairFreeds", fn := fun _ => fun
  | [d1, d2] => { results := [.lit (.bool false)], args := [d1, d2] }
  | _ => none }
def PairFreedsWrongFalsely : Prop := pairFreedsRow.holds Try.pinned (OpenSpec.ofChange pairFreedsWrong)

/-- 'whipcordlaw.ViaAlls': WHATEVER THE INPUT: true; the input reads as it did. -/
def viaAllsSpec : ChangeSpec := { name := "viaAlls", fn := fun _ => fun
  | [d] => { results := [.lit (.bool true)], args := [d] }
  | _ => none }
def viaAllsRow : OpenClaim := { program := "ytmljdjakbbedlaa", sum := "4796d419e0c2e737834a5b7e2334561b8b36bfa3796b430be5aee32296b78de4", func := "whipcord/whipcordlaw.ViaAlls", spec := "viaAlls", unfollowed := true, recurses := true, plainKeys := false, apart := false }
def ViaAllsSaid : Prop := viaAllsRow.holds Try.pinned (OpenSpec.ofChange viaAllsSpec)

/-- ITS FALSE NEIGHBOUR: 'it returns false'. Refute it at one input. -/
def viaAllsWrong : ChangeSpec := { name := "viaAlls", fn := fun _ => fun
  | [d] => { results := [.lit (.bool false)], args := [d] }
  | _ => none }
def ViaAllsWrongFalsely : Prop := viaAllsRow.holds Try.pinned (OpenSpec.ofChange viaAllsWrong)

/-- 'whipcordlaw.OfferBests': WHATEVER THE INPUT: true; the input reads as it did. -/
def offerBestsSpec : ChangeSpec := { name := "offerBests", fn := fun _ => fun
  | [d] => { results := [.lit (.bool true)], args := [d] }
  | _ => none }
def offerBestsRow : OpenClaim := { program := "ytmljdjakbbedlaa", sum := "4796d419e0c2e737834a5b7e2334561b8b36bfa3796b430be5aee32296b78de4", func := "whipcord/whipcordlaw.OfferBests", spec := "offerBests", unfollowed := true, recurses := true, plainKeys := false, apart := false }
def OfferBestsSaid : Prop := offerBestsRow.holds Try.pinned (OpenSpec.ofChange offerBestsSpec)

/-- ITS FALSE NEIGHBOUR: 'it returns false'. Refute it at one input. -/
def offerBestsWrong : ChangeSpec := { name := "offerBests", fn := fun _ => fun
  | [d] => { results := [.lit (.bool false)], args := [d] }
  | _ => none }
def OfferBestsWrongFalsely : Prop := offerBestsRow.holds Try.pinned (OpenSpec.ofChange offerBestsWrong)

/-- 'whipcordlaw.OfferTables': WHATEVER THE INPUT: true; the input reads as it did. -/
def offerTablesSpec : ChangeSpec := { name := "offerTables", fn := fun _ => fun
  | [d] => { results := [.lit (.bool true)], args := [d] }
  | _ => none }
def offerTablesRow : OpenClaim := { program := "ytmljdjakbbedlaa", sum := "4796d419e0c2e737834a5b7e2334561b8b36bfa3796b430be5aee32296b78de4", func := "whipcord/whipcordlaw.OfferTables", spec := "offerTables", unfollowed := true, recurses := true, plainKeys := false, apart := false }
def OfferTablesSaid : Prop := offerTablesRow.holds Try.pinned (OpenSpec.ofChange offerTablesSpec)

/-- ITS FALSE NEIGHBOUR: 'it returns false'. Refute it at one input. -/
def offerTablesWrong : ChangeSpec := { name := "offerTables", fn := fun _ => fun
  | [d] => { results := [.lit (.bool false)], args := [d] }
  | _ => none }
def OfferTablesWrongFalsely : Prop := offerTablesRow.holds Try.pinned (OpenSpec.ofChange offerTablesWrong)

/-- 'whipcordlaw.FewestFews': WHATEVER THE INPUT: true; the input reads as it did. -/
def fewestFewsSpec : ChangeSpec := { name := "fewestFews", fn := fun _ => fun
  | [d] => { results := [.lit (.bool true)], args := [d] }
  | _ => none }
def fewestFewsRow : OpenClaim := { program := "ytmljdjakbbedlaa", sum := "4796d419e0c2e737834a5b7e2334561b8b36bfa3796b430be5aee32296b78de4", func := "whipcord/whipcordlaw.FewestFews", spec := "fewestFews", unfollowed := true, recurses := true, plainKeys := false, apart := false }
def FewestFewsSaid : Prop := fewestFewsRow.holds Try.pinned (OpenSpec.ofChange fewestFewsSpec)

/-- ITS FALSE NEIGHBOUR: 'it returns false'. Refute it at one input. -/
def fewestFewsWrong : ChangeSpec := { name := "fewestFews", fn := fun _ => fun
  | [d] => { results := [.lit (.bool false)], args := [d] }
  | _ => none }
def FewestFewsWrongFalsely : Prop := fewestFewsRow.holds Try.pinned (OpenSpec.ofChange fewestFewsWrong)

/-- 'whipcordlaw.ImageSaves': WHATEVER THE INPUT: true; the input reads as it did. -/
def imageSavesSpec : ChangeSpec := { name := "imageSaves", fn := fun _ => fun
  | [d] => { results := [.lit (.bool true)], args := [d] }
  | _ => none }
def imageSavesRow : OpenClaim := { program := "ytmljdjakbbedlaa", sum := "4796d419e0c2e737834a5b7e2334561b8b36bfa3796b430be5aee32296b78de4", func := "whipcord/whipcordlaw.ImageSaves", spec := "imageSaves", inPlace := ["internal/reflectlite.ValueOf", "internal/reflectlite.Swapper", "(internal/reflectlite.Value).Len"], unfollowed := true, recurses := true, plainKeys := false, apart := false }
def ImageSavesSaid : Prop := imageSavesRow.holds Try.pinned (OpenSpec.ofChange imageSavesSpec)

/-- ITS FALSE NEIGHBOUR: 'it returns false'. Refute it at one input. -/
def imageSavesWrong : ChangeSpec := { name := "imageSaves", fn := fun _ => fun
  | [d] => { results := [.lit (.bool false)], args := [d] }
  | _ => none }
def ImageSavesWrongFalsely : Prop := imageSavesRow.holds Try.pinned (OpenSpec.ofChange imageSavesWrong)

/-- 'whipcordlaw.ImageLoads': WHATEVER THE INPUT: true; the input reads as it did. -/
def imageLoadsSpec : ChangeSpec := { name := "imageLoads", fn := fun _ => fun
  | [d] => { results := [.lit (.bool true)], args := [d] }
  | _ => none }
def imageLoadsRow : OpenClaim := { program := "ytmljdjakbbedlaa", sum := "4796d419e0c2e737834a5b7e2334561b8b36bfa3796b430be5aee32296b78de4", func := "whipcord/whipcordlaw.ImageLoads", spec := "imageLoads", inPlace := ["internal/reflectlite.ValueOf", "internal/reflectlite.Swapper", "(internal/reflectlite.Value).Len"], unfollowed := true, recurses := true, plainKeys := false, apart := false }
def ImageLoadsSaid : Prop := imageLoadsRow.holds Try.pinned (OpenSpec.ofChange imageLoadsSpec)

/-- ITS FALSE NEIGHBOUR: 'it returns false'. Refute it at one input. -/
def imageLoadsWrong : ChangeSpec := { name := "imageLoads", fn := fun _ => fun
  | [d] => { results := [.lit (.bool false)], args := [d] }
  | _ => none }
def ImageLoadsWrongFalsely : Prop := imageLoadsRow.holds Try.pinned (OpenSpec.ofChange imageLoadsWrong)

/- THE SECOND FORM. 'bulk': how many values and letters a reading holds, each counted each time it is reached (what is shared counts as often as it is met; a slice's spare places count too). A statement '..UptoSaid' is the law's where the arguments, and the package variables that the reading takes, are together of bulk at most 1048576: NARROWER than '..Said'. Prove '..Said' where nothing that the law and all that it calls make is longer than what came in: it says more and counts as full. Else prove '..UptoSaid'. A law counts once. -/
mutual
def uptoBulk {H : Type} : DataW H → Nat
  | .lit (.string bytes) => bytes.length + 1
  | .lit _ => 1
  | .nil => 1
  | .ptr d => uptoBulk d + 1
  | .slice elems spare => uptoBulkAll elems + uptoBulkAll spare + 1
  | .agg parts => uptoBulkAll parts + 1
  | .iface _ d => uptoBulk d + 1
  | .map entries => uptoBulkEntries entries + 1
  | .held _ => 1
def uptoBulkAll {H : Type} : List (DataW H) → Nat
  | [] => 0
  | d :: r => uptoBulk d + uptoBulkAll r
def uptoBulkEntries {H : Type} : List (Lit × DataW H) → Nat
  | [] => 0
  | x :: r => uptoBulkEntry x + uptoBulkEntries r
def uptoBulkEntry {H : Type} : Lit × DataW H → Nat
  | (.string bytes, d) => bytes.length + uptoBulk d + 1
  | (_, d) => uptoBulk d + 1
 end
def uptoSmall : (H : Type) → List (DataW H) → Bool := fun _ ds => decide (uptoBulkAll ds ≤ 1048576)
def OpenSpec.upto (s : _root_.Go.ChangeSpec) : _root_.Go.OpenSpec := { _root_.Go.OpenSpec.ofChange s with cond := some uptoSmall }

/-- 'whipcordtop.TopOffers', WHERE WHAT IT READS IS OF BULK AT MOST 1048576: true; the input reads as it did. -/
def topOffersUptoRow : OpenClaim := { program := "ytmljdjakbbedlaa", sum := "4796d419e0c2e737834a5b7e2334561b8b36bfa3796b430be5aee32296b78de4", func := "whipcord/whipcordtop.TopOffers", spec := "topOffers", unfollowed := true, recurses := true, plainKeys := false, apart := false, narrowed := true }
def TopOffersUptoSaid : Prop := topOffersUptoRow.holds Try.pinned (OpenSpec.upto topOffersSpec)

/-- 'whipcordlaw.StrideMakes', WHERE WHAT IT READS IS OF BULK AT MOST 1048576: true; the input reads as it did. -/
def strideMakesUptoRow : OpenClaim := { program := "ytmljdjakbbedlaa", sum := "4796d419e0c2e737834a5b7e2334561b8b36bfa3796b430be5aee32296b78de4", func := "whipcord/whipcordlaw.StrideMakes", spec := "strideMakes", unfollowed := true, recurses := true, plainKeys := false, apart := false, narrowed := true }
def StrideMakesUptoSaid : Prop := strideMakesUptoRow.holds Try.pinned (OpenSpec.upto strideMakesSpec)

/-- 'whipcordlaw.PairPlays', WHERE WHAT IT READS IS OF BULK AT MOST 1048576: true; the input reads as it did. -/
def pairPlaysUptoRow : OpenClaim := { program := "ytmljdjakbbedlaa", sum := "4796d419e0c2e737834a5b7e2334561b8b36bfa3796b430be5aee32296b78de4", func := "whipcord/whipcordlaw.PairPlays", spec := "pairPlays", unfollowed := true, recurses := true, plainKeys := false, apart := false, narrowed := true }
def PairPlaysUptoSaid : Prop := pairPlaysUptoRow.holds Try.pinned (OpenSpec.upto pairPlaysSpec)

/-- 'whipcordlaw.PairFreeds', WHERE WHAT IT READS IS OF BULK AT MOST 1048576: true; the input reads as it did. -/
def pairFreedsUptoRow : OpenClaim := { program := "ytmljdjakbbedlaa", sum := "4796d419e0c2e737834a5b7e2334561b8b36bfa3796b430be5aee32296b78de4", func := "whipcord/whipcordlaw.PairFreeds", spec := "pairFreeds", unfollowed := true, recurses := true, plainKeys := false, apart := false, narrowed := true }
def PairFreedsUptoSaid : Prop := pairFreedsUptoRow.holds Try.pinned (OpenSpec.upto pairFreedsSpec)

/-- 'whipcordlaw.ViaAlls', WHERE WHAT IT READS IS OF BULK AT MOST 1048576: true; the input reads as it did. -/
def viaAllsUptoRow : OpenClaim := { program := "ytmljdjakbbedlaa", sum := "4796d419e0c2e737834a5b7e2334561b8b36bfa3796b430be5aee32296b78de4", func := "whipcord/whipcordlaw.ViaAlls", spec := "viaAlls", unfollowed := true, recurses := true, plainKeys := false, apart := false, narrowed := true }
def ViaAllsUptoSaid : Prop := viaAllsUptoRow.holds Try.pinned (OpenSpec.upto viaAllsSpec)

/-- 'whipcordlaw.OfferBests', WHERE WHAT IT READS IS OF BULK AT MOST 1048576: true; the input reads as it did. -/
def offerBestsUptoRow : OpenClaim := { program := "ytmljdjakbbedlaa", sum := "4796d419e0c2e737834a5b7e2334561b8b36bfa3796b430be5aee32296b78de4", func := "whipcord/whipcordlaw.OfferBests", spec := "offerBests", unfollowed := true, recurses := true, plainKeys := false, apart := false, narrowed := true }
def OfferBestsUptoSaid : Prop := offerBestsUptoRow.holds Try.pinned (OpenSpec.upto offerBestsSpec)

/-- 'whipcordlaw.OfferTables', WHERE WHAT IT READS IS OF BULK AT MOST 1048576: true; the input reads as it did. -/
def offerTablesUptoRow : OpenClaim := { program := "ytmljdjakbbedlaa", sum := "4796d419e0c2e737834a5b7e2334561b8b36bfa3796b430be5aee32296b78de4", func := "whipcord/whipcordlaw.OfferTables", spec := "offerTables", unfollowed := true, recurses := true, plainKeys := false, apart := false, narrowed := true }
def OfferTablesUptoSaid : Prop := offerTablesUptoRow.holds Try.pinned (OpenSpec.upto offerTablesSpec)

/-- 'whipcordlaw.FewestFews', WHERE WHAT IT READS IS OF BULK AT MOST 1048576: true; the input reads as it did. -/
def fewestFewsUptoRow : OpenClaim := { program := "ytmljdjakbbedlaa", sum := "4796d419e0c2e737834a5b7e2334561b8b36bfa3796b430be5aee32296b78de4", func := "whipcord/whipcordlaw.FewestFews", spec := "fewestFews", unfollowed := true, recurses := true, plainKeys := false, apart := false, narrowed := true }
def FewestFewsUptoSaid : Prop := fewestFewsUptoRow.holds Try.pinned (OpenSpec.upto fewestFewsSpec)

/-- 'whipcordlaw.ImageSaves', WHERE WHAT IT READS IS OF BULK AT MOST 1048576: true; the input reads as it did. -/
def imageSavesUptoRow : OpenClaim := { program := "ytmljdjakbbedlaa", sum := "4796d419e0c2e737834a5b7e2334561b8b36bfa3796b430be5aee32296b78de4", func := "whipcord/whipcordlaw.ImageSaves", spec := "imageSaves", inPlace := ["internal/reflectlite.ValueOf", "internal/reflectlite.Swapper", "(internal/reflectlite.Value).Len"], unfollowed := true, recurses := true, plainKeys := false, apart := false, narrowed := true }
def ImageSavesUptoSaid : Prop := imageSavesUptoRow.holds Try.pinned (OpenSpec.upto imageSavesSpec)

/-- 'whipcordlaw.ImageLoads', WHERE WHAT IT READS IS OF BULK AT MOST 1048576: true; the input reads as it did. -/
def imageLoadsUptoRow : OpenClaim := { program := "ytmljdjakbbedlaa", sum := "4796d419e0c2e737834a5b7e2334561b8b36bfa3796b430be5aee32296b78de4", func := "whipcord/whipcordlaw.ImageLoads", spec := "imageLoads", inPlace := ["internal/reflectlite.ValueOf", "internal/reflectlite.Swapper", "(internal/reflectlite.Value).Len"], unfollowed := true, recurses := true, plainKeys := false, apart := false, narrowed := true }
def ImageLoadsUptoSaid : Prop := imageLoadsUptoRow.holds Try.pinned (OpenSpec.upto imageLoadsSpec)

end Rows
end Go.Proofs.Ytmljdjakbbedlaa
