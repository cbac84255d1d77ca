/-
  No cell of these rows narrows 'for every input' (looked for: loops, veiled, ifaces, maps, wideKeys, modest, calm, conditions, laid).
  DERIVED. THE GIVEN ROWS OF THIS SEAT. 17 by the template 'for every input the law returns true; each argument reads behind the call as it read before'; 0 by the template 'total and deterministic' (their statements: YtnflaaoapmhjgaaTotals.lean).
  GIVEN WITH THE SEED: the statements are not yours to turn. If you find one false, say at which input.
  Laid BY PROGRAM, IN A SANDBOX (cutbox-rows.mjs): the forced cells as the released guide's own fill.sh prints them over the translation ea823ac9d0af3ef7… (all of the seat's roots in one cut). By AI agents, Wed Nov 11 2026. No macro, syntax, notation, axiom, sorry.
-/
import Derived.Test.YtnflaaoapmhjgaaChecked
import GoSem.Claim
import GoSem.ClaimJoined
import GoSem.ClaimMapViews
import Derived.JoinedTies
import Derived.KernelRfl
namespace Go.Proofs.Ytnflaaoapmhjgaa
/- THE CELL 'sum', in the pinned program and in every row, IS THE sha256 OF THE DUMP (.gsa) THAT YtnflaaoapmhjgaaProg.lean LOADS. Nothing in Lean hashes anything: it is a label: what it is worth is what the hold of that sum in a sandbox is worth. -/
noncomputable def Try.pinned : Pinned := { name := "ytnflaaoapmhjgaa", sum := "ea823ac9d0af3ef74c3d189c652396ca67d53c968c5253a6346125f59d584e3f", checked := Try.checked }
namespace Rows
def none {H : Type} : Left H := { results := [], args := [] }

/-- 'whipcordlaw.QueuePlays': WHATEVER THE INPUT: true; the input reads as it did. -/
def queuePlaysSpec : ChangeSpec := { name := "queuePlays", fn := fun _ => fun
  | [d] => { results := [.lit (.bool true)], args := [d] }
  | _ => none }
def queuePlaysRow : OpenClaim := { program := "ytnflaaoapmhjgaa", sum := "ea823ac9d0af3ef74c3d189c652396ca67d53c968c5253a6346125f59d584e3f", func := "whipcord/whipcordlaw.QueuePlays", spec := "queuePlays", unfollowed := true, recurses := true, plainKeys := false, apart := false }
def QueuePlaysSaid : Prop := queuePlaysRow.holds Try.pinned (OpenSpec.ofChange queuePlaysSpec)

/-- ITS FALSE NEIGHBOUR: 'it returns false'. Refute it at one input. -/
def queuePlaysWrong : ChangeSpec := { name := "queuePlays", fn := fun _ => fun
  | [d] => { results := [.lit (.bool false)], args := [d] }
  | _ => none }
def QueuePlaysWrongFalsely : Prop := queuePlaysRow.holds Try.pinned (OpenSpec.ofChange queuePlaysWrong)

/-- 'whipcordtop.TopOffers': WHATEVER THE INPUT: true; the input reads as it did. -/
def topOffersSpec : ChangeSpec := { name := "topOffers", fn := fun _ => fun
  | [d1, d2, d3] => { results := [.lit (.bool true)], args := [d1, d2, d3] }
  | _ => none }
def topOffersRow : OpenClaim := { program := "ytnflaaoapmhjgaa", sum := "ea823ac9d0af3ef74c3d189c652396ca67d53c968c5253a6346125f59d584e3f", func := "whipcord/whipcordtop.TopOffers", spec := "topOffers", unfollowed := true, recurses := true, plainKeys := false, apart := false }
def TopOffersSaid : Prop := topOffersRow.holds Try.pinned (OpenSpec.ofChange topOffersSpec)

/-- ITS FALSE NEIGHBOUR: 'it returns false'. Refute it at one input. -/
def topOffersWrong : ChangeSpec := { name := "topOffers", fn := fun _ => fun
  | [d1, d2, d3] => { results := [.lit (.bool false)], args := [d1, d2, d3] }
  | _ => none }
def TopOffersWrongFalsely : Prop := topOffersRow.holds Try.pinned (OpenSpec.ofChange topOffersWrong)

/-- 'whipcordlaw.StrideMakes': WHATEVER THE INPUT: true; the input reads as it did. -/
def strideMakesSpec : ChangeSpec := { name := "strideMakes", fn := fun _ => fun
  | [d] => { results := [.lit (.bool true)], args := [d] }
  | _ => none }
def strideMakesRow : OpenClaim := { program := "ytnflaaoapmhjgaa", sum := "ea823ac9d0af3ef74c3d189c652396ca67d53c968c5253a6346125f59d584e3f", func := "whipcord/whipcordlaw.StrideMakes", spec := "strideMakes", unfollowed := true, recurses := true, plainKeys := false, apart := false }
def StrideMakesSaid : Prop := strideMakesRow.holds Try.pinned (OpenSpec.ofChange strideMakesSpec)

/-- ITS FALSE NEIGHBOUR: 'it returns false'. Refute it at one input. -/
def strideMakesWrong : ChangeSpec := { name := "strideMakes", fn := fun _ => fun
  | [d] => { results := [.lit (.bool false)], args := [d] }
  | _ => none }
def StrideMakesWrongFalsely : Prop := strideMakesRow.holds Try.pinned (OpenSpec.ofChange strideMakesWrong)

/-- 'whipcordlaw.ShareTurns': WHATEVER THE INPUT: true; the input reads as it did. -/
def shareTurnsSpec : ChangeSpec := { name := "shareTurns", fn := fun _ => fun
  | [d1, d2] => { results := [.lit (.bool true)], args := [d1, d2] }
  | _ => none }
def shareTurnsRow : OpenClaim := { program := "ytnflaaoapmhjgaa", sum := "ea823ac9d0af3ef74c3d189c652396ca67d53c968c5253a6346125f59d584e3f", func := "whipcord/whipcordlaw.ShareTurns", spec := "shareTurns", unfollowed := true, recurses := true, plainKeys := false, apart := false }
def ShareTurnsSaid : Prop := shareTurnsRow.holds Try.pinned (OpenSpec.ofChange shareTurnsSpec)

/-- ITS FALSE NEIGHBOUR: 'it returns false'. Refute it at one input. -/
def shareTurnsWrong : ChangeSpec := { name := "shareTurns", fn := fun _ => fun
  | [d1, d2] => { results := [.lit (.bool false)], args := [d1, d2] }
  | _ => none }
def ShareTurnsWrongFalsely : Prop := shareTurnsRow.holds Try.pinned (OpenSpec.ofChange shareTurnsWrong)

/-- 'whipcordlaw.ShareDeals': WHATEVER THE INPUT: true; the input reads as it did. -/
def shareDealsSpec : ChangeSpec := { name := "shareDeals", fn := fun _ => fun
  | [d1, d2] => { results := [.lit (.bool true)], args := [d1, d2] }
  | _ => none }
def shareDealsRow : OpenClaim := { program := "ytnflaaoapmhjgaa", sum := "ea823ac9d0af3ef74c3d189c652396ca67d53c968c5253a6346125f59d584e3f", func := "whipcord/whipcordlaw.ShareDeals", spec := "shareDeals", unfollowed := true, recurses := true, plainKeys := false, apart := false }
def ShareDealsSaid : Prop := shareDealsRow.holds Try.pinned (OpenSpec.ofChange shareDealsSpec)

/-- ITS FALSE NEIGHBOUR: 'it returns false'. Refute it at one input. -/
def shareDealsWrong : ChangeSpec := { name := "shareDeals", fn := fun _ => fun
  | [d1, d2] => { results := [.lit (.bool false)], args := [d1, d2] }
  | _ => none }
def ShareDealsWrongFalsely : Prop := shareDealsRow.holds Try.pinned (OpenSpec.ofChange shareDealsWrong)

/-- 'whipcordlaw.PairPlays': WHATEVER THE INPUT: true; the input reads as it did. -/
def pairPlaysSpec : ChangeSpec := { name := "pairPlays", fn := fun _ => fun
  | [d1, d2] => { results := [.lit (.bool true)], args := [d1, d2] }
  | _ => none }
def pairPlaysRow : OpenClaim := { program := "ytnflaaoapmhjgaa", sum := "ea823ac9d0af3ef74c3d189c652396ca67d53c968c5253a6346125f59d584e3f", func := "whipcord/whipcordlaw.PairPlays", spec := "pairPlays", unfollowed := true, recurses := true, plainKeys := false, apart := false }
def PairPlaysSaid : Prop := pairPlaysRow.holds Try.pinned (OpenSpec.ofChange pairPlaysSpec)

/-- ITS FALSE NEIGHBOUR: 'it returns false'. Refute it at one input. -/
def pairPlaysWrong : ChangeSpec := { name := "pairPlays", fn := fun _ => fun
  | [d1, d2] => { results := [.lit (.bool false)], args := [d1, d2] }
  | _ => none }
def PairPlaysWrongFalsely : Prop := pairPlaysRow.holds Try.pinned (OpenSpec.ofChange pairPlaysWrong)

/-- 'whipcordlaw.PairFreeds': WHATEVER THE INPUT: true; the input reads as it did. -/
def pairFreedsSpec : ChangeSpec := { name := "pairFreeds", fn := fun _ => fun
  | [d1, d2] => { results := [.lit (.bool true)], args := [d1, d2] }
  | _ => none }
def pairFreedsRow : OpenClaim := { program := "ytnflaaoapmhjgaa", sum := "ea823ac9d0af3ef74c3d189c652396ca67d53c968c5253a6346125f59d584e3f", func := "whipcord/whipcordlaw.PairFreeds", spec := "pairFreeds", unfollowed := true, recurses := true, plainKeys := false, apart := false }
def PairFreedsSaid : Prop := pairFreedsRow.holds Try.pinned (OpenSpec.ofChange pairFreedsSpec)

/-- ITS FALSE NEIGHBOUR: 'it returns false'. Refute it at one input. -/
def pairFreedsWrong : ChangeSpec := { name := "pairFreeds", fn := fun _ => fun
  | [d1, d2] => { results := [.lit (.bool false)], args := [d1, d2] }
  | _ => none }
def PairFreedsWrongFalsely : Prop := pairFreedsRow.holds Try.pinned (OpenSpec.ofChange pairFreedsWrong)

/-- 'whipcordlaw.ViaAlls': WHATEVER THE INPUT: true; the input reads as it did. -/
def viaAllsSpec : ChangeSpec := { name := "viaAlls", fn := fun _ => fun
  | [d] => { results := [.lit (.bool true)], args := [d] }
  | _ => none }
def viaAllsRow : OpenClaim := { program := "ytnflaaoapmhjgaa", sum := "ea823ac9d0af3ef74c3d189c652396ca67d53c968c5253a6346125f59d584e3f", func := "whipcord/whipcordlaw.ViaAlls", spec := "viaAlls", unfollowed := true, recurses := true, plainKeys := false, apart := false }
def ViaAllsSaid : Prop := viaAllsRow.holds Try.pinned (OpenSpec.ofChange viaAllsSpec)

/-- ITS FALSE NEIGHBOUR: 'it returns false'. Refute it at one input. -/
def viaAllsWrong : ChangeSpec := { name := "viaAlls", fn := fun _ => fun
  | [d] => { results := [.lit (.bool false)], args := [d] }
  | _ => none }
def ViaAllsWrongFalsely : Prop := viaAllsRow.holds Try.pinned (OpenSpec.ofChange viaAllsWrong)

/-- 'whipcordlaw.OfferBests': WHATEVER THE INPUT: true; the input reads as it did. -/
def offerBestsSpec : ChangeSpec := { name := "offerBests", fn := fun _ => fun
  | [d] => { results := [.lit (.bool true)], args := [d] }
  | _ => none }
def offerBestsRow : OpenClaim := { program := "ytnflaaoapmhjgaa", sum := "ea823ac9d0af3ef74c3d189c652396ca67d53c968c5253a6346125f59d584e3f", func := "whipcord/whipcordlaw.OfferBests", spec := "offerBests", unfollowed := true, recurses := true, plainKeys := false, apart := false }
def OfferBestsSaid : Prop := offerBestsRow.holds Try.pinned (OpenSpec.ofChange offerBestsSpec)

/-- ITS FALSE NEIGHBOUR: 'it returns false'. Refute it at one input. -/
def offerBestsWrong : ChangeSpec := { name := "offerBests", fn := fun _ => fun
  | [d] => { results := [.lit (.bool false)], args := [d] }
  | _ => none }
def OfferBestsWrongFalsely : Prop := offerBestsRow.holds Try.pinned (OpenSpec.ofChange offerBestsWrong)

/-- 'whipcordlaw.OfferTables': WHATEVER THE INPUT: true; the input reads as it did. -/
def offerTablesSpec : ChangeSpec := { name := "offerTables", fn := fun _ => fun
  | [d] => { results := [.lit (.bool true)], args := [d] }
  | _ => none }
def offerTablesRow : OpenClaim := { program := "ytnflaaoapmhjgaa", sum := "ea823ac9d0af3ef74c3d189c652396ca67d53c968c5253a6346125f59d584e3f", func := "whipcord/whipcordlaw.OfferTables", spec := "offerTables", unfollowed := true, recurses := true, plainKeys := false, apart := false }
def OfferTablesSaid : Prop := offerTablesRow.holds Try.pinned (OpenSpec.ofChange offerTablesSpec)

/-- ITS FALSE NEIGHBOUR: 'it returns false'. Refute it at one input. -/
def offerTablesWrong : ChangeSpec := { name := "offerTables", fn := fun _ => fun
  | [d] => { results := [.lit (.bool false)], args := [d] }
  | _ => none }
def OfferTablesWrongFalsely : Prop := offerTablesRow.holds Try.pinned (OpenSpec.ofChange offerTablesWrong)

/-- 'whipcordlaw.FewestFews': WHATEVER THE INPUT: true; the input reads as it did. -/
def fewestFewsSpec : ChangeSpec := { name := "fewestFews", fn := fun _ => fun
  | [d] => { results := [.lit (.bool true)], args := [d] }
  | _ => none }
def fewestFewsRow : OpenClaim := { program := "ytnflaaoapmhjgaa", sum := "ea823ac9d0af3ef74c3d189c652396ca67d53c968c5253a6346125f59d584e3f", func := "whipcord/whipcordlaw.FewestFews", spec := "fewestFews", unfollowed := true, recurses := true, plainKeys := false, apart := false }
def FewestFewsSaid : Prop := fewestFewsRow.holds Try.pinned (OpenSpec.ofChange fewestFewsSpec)

/-- ITS FALSE NEIGHBOUR: 'it returns false'. Refute it at one input. -/
def fewestFewsWrong : ChangeSpec := { name := "fewestFews", fn := fun _ => fun
  | [d] => { results := [.lit (.bool false)], args := [d] }
  | _ => none }
def FewestFewsWrongFalsely : Prop := fewestFewsRow.holds Try.pinned (OpenSpec.ofChange fewestFewsWrong)

/-- 'whipcordlaw.ImageSaves': WHATEVER THE INPUT: true; the input reads as it did. -/
def imageSavesSpec : ChangeSpec := { name := "imageSaves", fn := fun _ => fun
  | [d] => { results := [.lit (.bool true)], args := [d] }
  | _ => none }
def imageSavesRow : OpenClaim := { program := "ytnflaaoapmhjgaa", sum := "ea823ac9d0af3ef74c3d189c652396ca67d53c968c5253a6346125f59d584e3f", func := "whipcord/whipcordlaw.ImageSaves", spec := "imageSaves", inPlace := ["internal/reflectlite.ValueOf", "internal/reflectlite.Swapper", "(internal/reflectlite.Value).Len"], unfollowed := true, recurses := true, plainKeys := false, apart := false }
def ImageSavesSaid : Prop := imageSavesRow.holds Try.pinned (OpenSpec.ofChange imageSavesSpec)

/-- ITS FALSE NEIGHBOUR: 'it returns false'. Refute it at one input. -/
def imageSavesWrong : ChangeSpec := { name := "imageSaves", fn := fun _ => fun
  | [d] => { results := [.lit (.bool false)], args := [d] }
  | _ => none }
def ImageSavesWrongFalsely : Prop := imageSavesRow.holds Try.pinned (OpenSpec.ofChange imageSavesWrong)

/-- 'whipcordlaw.TablePlays': WHATEVER THE INPUT: true; the input reads as it did. -/
def tablePlaysSpec : ChangeSpec := { name := "tablePlays", fn := fun _ => fun
  | [d] => { results := [.lit (.bool true)], args := [d] }
  | _ => none }
def tablePlaysRow : OpenClaim := { program := "ytnflaaoapmhjgaa", sum := "ea823ac9d0af3ef74c3d189c652396ca67d53c968c5253a6346125f59d584e3f", func := "whipcord/whipcordlaw.TablePlays", spec := "tablePlays", inPlace := ["internal/reflectlite.ValueOf", "internal/reflectlite.Swapper", "(internal/reflectlite.Value).Len"], unfollowed := true, recurses := true, plainKeys := false, apart := false }
def TablePlaysSaid : Prop := tablePlaysRow.holds Try.pinned (OpenSpec.ofChange tablePlaysSpec)

/-- ITS FALSE NEIGHBOUR: 'it returns false'. Refute it at one input. -/
def tablePlaysWrong : ChangeSpec := { name := "tablePlays", fn := fun _ => fun
  | [d] => { results := [.lit (.bool false)], args := [d] }
  | _ => none }
def TablePlaysWrongFalsely : Prop := tablePlaysRow.holds Try.pinned (OpenSpec.ofChange tablePlaysWrong)

/-- 'whipcordlaw.DeltaDiffs': WHATEVER THE INPUT: true; the input reads as it did. -/
def deltaDiffsSpec : ChangeSpec := { name := "deltaDiffs", fn := fun _ => fun
  | [d1, d2] => { results := [.lit (.bool true)], args := [d1, d2] }
  | _ => none }
def deltaDiffsRow : OpenClaim := { program := "ytnflaaoapmhjgaa", sum := "ea823ac9d0af3ef74c3d189c652396ca67d53c968c5253a6346125f59d584e3f", func := "whipcord/whipcordlaw.DeltaDiffs", spec := "deltaDiffs", inPlace := ["internal/reflectlite.ValueOf", "internal/reflectlite.Swapper", "(internal/reflectlite.Value).Len"], unfollowed := true, recurses := true, plainKeys := false, apart := false }
def DeltaDiffsSaid : Prop := deltaDiffsRow.holds Try.pinned (OpenSpec.ofChange deltaDiffsSpec)

/-- ITS FALSE NEIGHBOUR: 'it returns false'. Refute it at one input. -/
def deltaDiffsWrong : ChangeSpec := { name := "deltaDiffs", fn := fun _ => fun
  | [d1, d2] => { results := [.lit (.bool false)], args := [d1, d2] }
  | _ => none }
def DeltaDiffsWrongFalsely : Prop := deltaDiffsRow.holds Try.pinned (OpenSpec.ofChange deltaDiffsWrong)

/-- 'whipcordlaw.TableRoutes': WHATEVER THE INPUT: true; the input reads as it did. -/
def tableRoutesSpec : ChangeSpec := { name := "tableRoutes", fn := fun _ => fun
  | [d] => { results := [.lit (.bool true)], args := [d] }
  | _ => none }
def tableRoutesRow : OpenClaim := { program := "ytnflaaoapmhjgaa", sum := "ea823ac9d0af3ef74c3d189c652396ca67d53c968c5253a6346125f59d584e3f", func := "whipcord/whipcordlaw.TableRoutes", spec := "tableRoutes", inPlace := ["internal/reflectlite.ValueOf", "internal/reflectlite.Swapper", "(internal/reflectlite.Value).Len"], unfollowed := true, recurses := true, plainKeys := false, apart := false }
def TableRoutesSaid : Prop := tableRoutesRow.holds Try.pinned (OpenSpec.ofChange tableRoutesSpec)

/-- ITS FALSE NEIGHBOUR: 'it returns false'. Refute it at one input. -/
def tableRoutesWrong : ChangeSpec := { name := "tableRoutes", fn := fun _ => fun
  | [d] => { results := [.lit (.bool false)], args := [d] }
  | _ => none }
def TableRoutesWrongFalsely : Prop := tableRoutesRow.holds Try.pinned (OpenSpec.ofChange tableRoutesWrong)

/-- 'whipcordlaw.DeltaApplies': WHATEVER THE INPUT: true; the input reads as it did. -/
def deltaAppliesSpec : ChangeSpec := { name := "deltaApplies", fn := fun _ => fun
  | [d1, d2] => { results := [.lit (.bool true)], args := [d1, d2] }
  | _ => none }
def deltaAppliesRow : OpenClaim := { program := "ytnflaaoapmhjgaa", sum := "ea823ac9d0af3ef74c3d189c652396ca67d53c968c5253a6346125f59d584e3f", func := "whipcord/whipcordlaw.DeltaApplies", spec := "deltaApplies", inPlace := ["internal/reflectlite.ValueOf", "internal/reflectlite.Swapper", "(internal/reflectlite.Value).Len"], unfollowed := true, recurses := true, plainKeys := false, apart := false }
def DeltaAppliesSaid : Prop := deltaAppliesRow.holds Try.pinned (OpenSpec.ofChange deltaAppliesSpec)

/-- ITS FALSE NEIGHBOUR: 'it returns false'. Refute it at one input. -/
def deltaAppliesWrong : ChangeSpec := { name := "deltaApplies", fn := fun _ => fun
  | [d1, d2] => { results := [.lit (.bool false)], args := [d1, d2] }
  | _ => none }
def DeltaAppliesWrongFalsely : Prop := deltaAppliesRow.holds Try.pinned (OpenSpec.ofChange deltaAppliesWrong)

/-- 'whipcordlaw.QueueTables': WHATEVER THE INPUT: true; the input reads as it did. -/
def queueTablesSpec : ChangeSpec := { name := "queueTables", fn := fun _ => fun
  | [d] => { results := [.lit (.bool true)], args := [d] }
  | _ => none }
def queueTablesRow : OpenClaim := { program := "ytnflaaoapmhjgaa", sum := "ea823ac9d0af3ef74c3d189c652396ca67d53c968c5253a6346125f59d584e3f", func := "whipcord/whipcordlaw.QueueTables", spec := "queueTables", inPlace := ["internal/reflectlite.ValueOf", "internal/reflectlite.Swapper", "(internal/reflectlite.Value).Len"], unfollowed := true, recurses := true, plainKeys := false, apart := false }
def QueueTablesSaid : Prop := queueTablesRow.holds Try.pinned (OpenSpec.ofChange queueTablesSpec)

/-- ITS FALSE NEIGHBOUR: 'it returns false'. Refute it at one input. -/
def queueTablesWrong : ChangeSpec := { name := "queueTables", fn := fun _ => fun
  | [d] => { results := [.lit (.bool false)], args := [d] }
  | _ => none }
def QueueTablesWrongFalsely : Prop := queueTablesRow.holds Try.pinned (OpenSpec.ofChange queueTablesWrong)

/- THE SECOND FORM. 'bulk': how many values and letters a reading holds, each counted each time it is reached (what is shared counts as often as it is met; a slice's spare places count too). A statement '..UptoSaid' is the law's where the arguments, and the package variables that the reading takes, are together of bulk at most 1048576: NARROWER than '..Said'. Prove '..Said' where nothing that the law and all that it calls make is longer than what came in: it says more and counts as full. Else prove '..UptoSaid'. A law counts once. -/
mutual
def uptoBulk {H : Type} : DataW H → Nat
  | .lit (.string bytes) => bytes.length + 1
  | .lit _ => 1
  | .nil => 1
  | .ptr d => uptoBulk d + 1
  | .slice elems spare => uptoBulkAll elems + uptoBulkAll spare + 1
  | .agg parts => uptoBulkAll parts + 1
  | .iface _ d => uptoBulk d + 1
  | .map entries => uptoBulkEntries entries + 1
  | .held _ => 1
def uptoBulkAll {H : Type} : List (DataW H) → Nat
  | [] => 0
  | d :: r => uptoBulk d + uptoBulkAll r
def uptoBulkEntries {H : Type} : List (Lit × DataW H) → Nat
  | [] => 0
  | x :: r => uptoBulkEntry x + uptoBulkEntries r
def uptoBulkEntry {H : Type} : Lit × DataW H → Nat
  | (.string bytes, d) => bytes.length + uptoBulk d + 1
  | (_, d) => uptoBulk d + 1
 end
def uptoSmall : (H : Type) → List (DataW H) → Bool := fun _ ds => decide (uptoBulkAll ds ≤ 1048576)
def OpenSpec.upto (s : _root_.Go.ChangeSpec) : _root_.Go.OpenSpec := { _root_.Go.OpenSpec.ofChange s with cond := some uptoSmall }

/-- 'whipcordlaw.QueuePlays', WHERE WHAT IT READS IS OF BULK AT MOST 1048576: true; the input reads as it did. -/
def queuePlaysUptoRow : OpenClaim := { program := "ytnflaaoapmhjgaa", sum := "ea823ac9d0af3ef74c3d189c652396ca67d53c968c5253a6346125f59d584e3f", func := "whipcord/whipcordlaw.QueuePlays", spec := "queuePlays", unfollowed := true, recurses := true, plainKeys := false, apart := false, narrowed := true }
def QueuePlaysUptoSaid : Prop := queuePlaysUptoRow.holds Try.pinned (OpenSpec.upto queuePlaysSpec)

/-- 'whipcordtop.TopOffers', WHERE WHAT IT READS IS OF BULK AT MOST 1048576: true; the input reads as it did. -/
def topOffersUptoRow : OpenClaim := { program := "ytnflaaoapmhjgaa", sum := "ea823ac9d0af3ef74c3d189c652396ca67d53c968c5253a6346125f59d584e3f", func := "whipcord/whipcordtop.TopOffers", spec := "topOffers", unfollowed := true, recurses := true, plainKeys := false, apart := false, narrowed := true }
def TopOffersUptoSaid : Prop := topOffersUptoRow.holds Try.pinned (OpenSpec.upto topOffersSpec)

/-- 'whipcordlaw.StrideMakes', WHERE WHAT IT READS IS OF BULK AT MOST 1048576: true; the input reads as it did. -/
def strideMakesUptoRow : OpenClaim := { program := "ytnflaaoapmhjgaa", sum := "ea823ac9d0af3ef74c3d189c652396ca67d53c968c5253a6346125f59d584e3f", func := "whipcord/whipcordlaw.StrideMakes", spec := "strideMakes", unfollowed := true, recurses := true, plainKeys := false, apart := false, narrowed := true }
def StrideMakesUptoSaid : Prop := strideMakesUptoRow.holds Try.pinned (OpenSpec.upto strideMakesSpec)

/-- 'whipcordlaw.ShareTurns', WHERE WHAT IT READS IS OF BULK AT MOST 1048576: true; the input reads as it did. -/
def shareTurnsUptoRow : OpenClaim := { program := "ytnflaaoapmhjgaa", sum := "ea823ac9d0af3ef74c3d189c652396ca67d53c968c5253a6346125f59d584e3f", func := "whipcord/whipcordlaw.ShareTurns", spec := "shareTurns", unfollowed := true, recurses := true, plainKeys := false, apart := false, narrowed := true }
def ShareTurnsUptoSaid : Prop := shareTurnsUptoRow.holds Try.pinned (OpenSpec.upto shareTurnsSpec)

/-- 'whipcordlaw.ShareDeals', WHERE WHAT IT READS IS OF BULK AT MOST 1048576: true; the input reads as it did. -/
def shareDealsUptoRow : OpenClaim := { program := "ytnflaaoapmhjgaa", sum := "ea823ac9d0af3ef74c3d189c652396ca67d53c968c5253a6346125f59d584e3f", func := "whipcord/whipcordlaw.ShareDeals", spec := "shareDeals", unfollowed := true, recurses := true, plainKeys := false, apart := false, narrowed := true }
def ShareDealsUptoSaid : Prop := shareDealsUptoRow.holds Try.pinned (OpenSpec.upto shareDealsSpec)

/-- 'whipcordlaw.PairPlays', WHERE WHAT IT READS IS OF BULK AT MOST 1048576: true; the input reads as it did. -/
def pairPlaysUptoRow : OpenClaim := { program := "ytnflaaoapmhjgaa", sum := "ea823ac9d0af3ef74c3d189c652396ca67d53c968c5253a6346125f59d584e3f", func := "whipcord/whipcordlaw.PairPlays", spec := "pairPlays", unfollowed := true, recurses := true, plainKeys := false, apart := false, narrowed := true }
def PairPlaysUptoSaid : Prop := pairPlaysUptoRow.holds Try.pinned (OpenSpec.upto pairPlaysSpec)

/-- 'whipcordlaw.PairFreeds', WHERE WHAT IT READS IS OF BULK AT MOST 1048576: true; the input reads as it did. -/
def pairFreedsUptoRow : OpenClaim := { program := "ytnflaaoapmhjgaa", sum := "ea823ac9d0af3ef74c3d189c652396ca67d53c968c5253a6346125f59d584e3f", func := "whipcord/whipcordlaw.PairFreeds", spec := "pairFreeds", unfollowed := true, recurses := true, plainKeys := false, apart := false, narrowed := true }
def PairFreedsUptoSaid : Prop := pairFreedsUptoRow.holds Try.pinned (OpenSpec.upto pairFreedsSpec)

/-- 'whipcordlaw.ViaAlls', WHERE WHAT IT READS IS OF BULK AT MOST 1048576: true; the input reads as it did. -/
def viaAllsUptoRow : OpenClaim := { program := "ytnflaaoapmhjgaa", sum := "ea823ac9d0af3ef74c3d189c652396ca67d53c968c5253a6346125f59d584e3f", func := "whipcord/whipcordlaw.ViaAlls", spec := "viaAlls", unfollowed := true, recurses := true, plainKeys := false, apart := false, narrowed := true }
def ViaAllsUptoSaid : Prop := viaAllsUptoRow.holds Try.pinned (OpenSpec.upto viaAllsSpec)

/-- 'whipcordlaw.OfferBests', WHERE WHAT IT READS IS OF BULK AT MOST 1048576: true; the input reads as it did. -/
def offerBestsUptoRow : OpenClaim := { program := "ytnflaaoapmhjgaa", sum := "ea823ac9d0af3ef74c3d189c652396ca67d53c968c5253a6346125f59d584e3f", func := "whipcord/whipcordlaw.OfferBests", spec := "offerBests", unfollowed := true, recurses := true, plainKeys := false, apart := false, narrowed := true }
def OfferBestsUptoSaid : Prop := offerBestsUptoRow.holds Try.pinned (OpenSpec.upto offerBestsSpec)

/-- 'whipcordlaw.OfferTables', WHERE WHAT IT READS IS OF BULK AT MOST 1048576: true; the input reads as it did. -/
def offerTablesUptoRow : OpenClaim := { program := "ytnflaaoapmhjgaa", sum := "ea823ac9d0af3ef74c3d189c652396ca67d53c968c5253a6346125f59d584e3f", func := "whipcord/whipcordlaw.OfferTables", spec := "offerTables", unfollowed := true, recurses := true, plainKeys := false, apart := false, narrowed := true }
def OfferTablesUptoSaid : Prop := offerTablesUptoRow.holds Try.pinned (OpenSpec.upto offerTablesSpec)

/-- 'whipcordlaw.FewestFews', WHERE WHAT IT READS IS OF BULK AT MOST 1048576: true; the input reads as it did. -/
def fewestFewsUptoRow : OpenClaim := { program := "ytnflaaoapmhjgaa", sum := "ea823ac9d0af3ef74c3d189c652396ca67d53c968c5253a6346125f59d584e3f", func := "whipcord/whipcordlaw.FewestFews", spec := "fewestFews", unfollowed := true, recurses := true, plainKeys := false, apart := false, narrowed := true }
def FewestFewsUptoSaid : Prop := fewestFewsUptoRow.holds Try.pinned (OpenSpec.upto fewestFewsSpec)

/-- 'whipcordlaw.ImageSaves', WHERE WHAT IT READS IS OF BULK AT MOST 1048576: true; the input reads as it did. -/
def imageSavesUptoRow : OpenClaim := { program := "ytnflaaoapmhjgaa", sum := "ea823ac9d0af3ef74c3d189c652396ca67d53c968c5253a6346125f59d584e3f", func := "whipcord/whipcordlaw.ImageSaves", spec := "imageSaves", inPlace := ["internal/reflectlite.ValueOf", "internal/reflectlite.Swapper", "(internal/reflectlite.Value).Len"], unfollowed := true, recurses := true, plainKeys := false, apart := false, narrowed := true }
def ImageSavesUptoSaid : Prop := imageSavesUptoRow.holds Try.pinned (OpenSpec.upto imageSavesSpec)

/-- 'whipcordlaw.TablePlays', WHERE WHAT IT READS IS OF BULK AT MOST 1048576: true; the input reads as it did. -/
def tablePlaysUptoRow : OpenClaim := { program := "ytnflaaoapmhjgaa", sum := "ea823ac9d0af3ef74c3d189c652396ca67d53c968c5253a6346125f59d584e3f", func := "whipcord/whipcordlaw.TablePlays", spec := "tablePlays", inPlace := ["internal/reflectlite.ValueOf", "internal/reflectlite.Swapper", "(internal/reflectlite.Value).Len"], unfollowed := true, recurses := true, plainKeys := false, apart := false, narrowed := true }
def TablePlaysUptoSaid : Prop := tablePlaysUptoRow.holds Try.pinned (OpenSpec.upto tablePlaysSpec)

/-- 'whipcordlaw.DeltaDiffs', WHERE WHAT IT READS IS OF BULK AT MOST 1048576: true; the input reads as it did. -/
def deltaDiffsUptoRow : OpenClaim := { program := "ytnflaaoapmhjgaa", sum := "ea823ac9d0af3ef74c3d189c652396ca67d53c968c5253a6346125f59d584e3f", func := "whipcord/whipcordlaw.DeltaDiffs", spec := "deltaDiffs", inPlace := ["internal/reflectlite.ValueOf", "internal/reflectlite.Swapper", "(internal/reflectlite.Value).Len"], unfollowed := true, recurses := true, plainKeys := false, apart := false, narrowed := true }
def DeltaDiffsUptoSaid : Prop := deltaDiffsUptoRow.holds Try.pinned (OpenSpec.upto deltaDiffsSpec)

/-- 'whipcordlaw.TableRoutes', WHERE WHAT IT READS IS OF BULK AT MOST 1048576: true; the input reads as it did. -/
def tableRoutesUptoRow : OpenClaim := { program := "ytnflaaoapmhjgaa", sum := "ea823ac9d0af3ef74c3d189c652396ca67d53c968c5253a6346125f59d584e3f", func := "whipcord/whipcordlaw.TableRoutes", spec := "tableRoutes", inPlace := ["internal/reflectlite.ValueOf", "internal/reflectlite.Swapper", "(internal/reflectlite.Value).Len"], unfollowed := true, recurses := true, plainKeys := false, apart := false, narrowed := true }
def TableRoutesUptoSaid : Prop := tableRoutesUptoRow.holds Try.pinned (OpenSpec.upto tableRoutesSpec)

/-- 'whipcordlaw.DeltaApplies', WHERE WHAT IT READS IS OF BULK AT MOST 1048576: true; the input reads as it did. -/
def deltaAppliesUptoRow : OpenClaim := { program := "ytnflaaoapmhjgaa", sum := "ea823ac9d0af3ef74c3d189c652396ca67d53c968c5253a6346125f59d584e3f", func := "whipcord/whipcordlaw.DeltaApplies", spec := "deltaApplies", inPlace := ["internal/reflectlite.ValueOf", "internal/reflectlite.Swapper", "(internal/reflectlite.Value).Len"], unfollowed := true, recurses := true, plainKeys := false, apart := false, narrowed := true }
def DeltaAppliesUptoSaid : Prop := deltaAppliesUptoRow.holds Try.pinned (OpenSpec.upto deltaAppliesSpec)

/-- 'whipcordlaw.QueueTables', WHERE WHAT IT READS IS OF BULK AT MOST 1048576: true; the input reads as it did. -/
def queueTablesUptoRow : OpenClaim := { program := "ytnflaaoapmhjgaa", sum := "ea823ac9d0af3ef74c3d189c652396ca67d53c968c5253a6346125f59d584e3f", func := "whipcord/whipcordlaw.QueueTables", spec := "queueTables", inPlace := ["internal/reflectlite.ValueOf", "internal/reflectlite.Swapper", "(internal/reflectlite.Value).Len"], unfollowed := true, recurses := true, plainKeys := false, apart := false, narrowed := true }
def QueueTablesUptoSaid : Prop := queueTablesUptoRow.holds Try.pinned (OpenSpec.upto queueTablesSpec)

end Rows
end Go.Proofs.Ytnflaaoapmhjgaa
