/-
  No cell of these rows narrows 'for every input' (looked for: loops, veiled, ifaces, maps, wideKeys, modest, calm, conditions, laid).
  DERIVED. THE GIVEN ROWS OF THIS SEAT. 21 by the template 'for every input the law returns true; each argument reads behind the call as it read before'; 0 by the template 'total and deterministic' (their statements: YtonelibgaceflaaTotals.lean).
  GIVEN WITH THE SEED: the statements are not yours to turn. If you find one false, say at which input.
  Laid BY PROGRAM, IN A SANDBOX (cutbox-rows.mjs): the forced cells as the released guide's own fill.sh prints them over the translation 0c651ad9fbb955e2… (all of the seat's roots in one cut). By AI agents, Wed Nov 11 2026. No macro, syntax, notation, axiom, sorry.
-/
import Derived.Test.YtonelibgaceflaaChecked
import GoSem.Claim
import GoSem.ClaimJoined
import GoSem.ClaimMapViews
import Derived.JoinedTies
import Derived.KernelRfl
namespace Go.Proofs.Ytonelibgaceflaa
/- THE CELL 'sum', in the pinned program and in every row, IS THE sha256 OF THE DUMP (.gsa) THAT YtonelibgaceflaaProg.lean LOADS. Nothing in Lean hashes anything: it is a label: what it is worth is what the hold of that sum in a sandbox is worth. -/
noncomputable def Try.pinned : Pinned := { name := "ytonelibgaceflaa", sum := "0c651ad9fbb955e28362b43cc6c40394413bc0019fd8fa01e762daa2409157e7", checked := Try.checked }
namespace Rows
def none {H : Type} : Left H := { results := [], args := [] }

/-- 'whipcordtop.TopRange': WHATEVER THE INPUT: true; the input reads as it did. -/
def topRangeSpec : ChangeSpec := { name := "topRange", fn := fun _ => fun
  | [d1, d2, d3] => { results := [.lit (.bool true)], args := [d1, d2, d3] }
  | _ => none }
def topRangeRow : OpenClaim := { program := "ytonelibgaceflaa", sum := "0c651ad9fbb955e28362b43cc6c40394413bc0019fd8fa01e762daa2409157e7", func := "whipcord/whipcordtop.TopRange", spec := "topRange", inPlace := ["math/bits.Add64", "math/bits.Sub64"], unfollowed := true, recurses := true, plainKeys := false, apart := false }
def TopRangeSaid : Prop := topRangeRow.holds Try.pinned (OpenSpec.ofChange topRangeSpec)

/-- ITS FALSE NEIGHBOUR: 'it returns false'. Refute it at one input. -/
def topRangeWrong : ChangeSpec := { name := "topRange", fn := fun _ => fun
  | [d1, d2, d3] => { results := [.lit (.bool false)], args := [d1, d2, d3] }
  | _ => none }
def TopRangeWrongFalsely : Prop := topRangeRow.holds Try.pinned (OpenSpec.ofChange topRangeWrong)

/-- 'whipcordlaw.RuleIdles': WHATEVER THE INPUT: true; the input reads as it did. -/
def ruleIdlesSpec : ChangeSpec := { name := "ruleIdles", fn := fun _ => fun
  | [d] => { results := [.lit (.bool true)], args := [d] }
  | _ => none }
def ruleIdlesRow : OpenClaim := { program := "ytonelibgaceflaa", sum := "0c651ad9fbb955e28362b43cc6c40394413bc0019fd8fa01e762daa2409157e7", func := "whipcord/whipcordlaw.RuleIdles", spec := "ruleIdles", unfollowed := true, recurses := true, plainKeys := false, apart := false }
def RuleIdlesSaid : Prop := ruleIdlesRow.holds Try.pinned (OpenSpec.ofChange ruleIdlesSpec)

/-- ITS FALSE NEIGHBOUR: 'it returns false'. Refute it at one input. -/
def ruleIdlesWrong : ChangeSpec := { name := "ruleIdles", fn := fun _ => fun
  | [d] => { results := [.lit (.bool false)], args := [d] }
  | _ => none }
def RuleIdlesWrongFalsely : Prop := ruleIdlesRow.holds Try.pinned (OpenSpec.ofChange ruleIdlesWrong)

/-- 'whipcordlaw.QueuePlays': WHATEVER THE INPUT: true; the input reads as it did. -/
def queuePlaysSpec : ChangeSpec := { name := "queuePlays", fn := fun _ => fun
  | [d] => { results := [.lit (.bool true)], args := [d] }
  | _ => none }
def queuePlaysRow : OpenClaim := { program := "ytonelibgaceflaa", sum := "0c651ad9fbb955e28362b43cc6c40394413bc0019fd8fa01e762daa2409157e7", func := "whipcord/whipcordlaw.QueuePlays", spec := "queuePlays", unfollowed := true, recurses := true, plainKeys := false, apart := false }
def QueuePlaysSaid : Prop := queuePlaysRow.holds Try.pinned (OpenSpec.ofChange queuePlaysSpec)

/-- ITS FALSE NEIGHBOUR: 'it returns false'. Refute it at one input. -/
def queuePlaysWrong : ChangeSpec := { name := "queuePlays", fn := fun _ => fun
  | [d] => { results := [.lit (.bool false)], args := [d] }
  | _ => none }
def QueuePlaysWrongFalsely : Prop := queuePlaysRow.holds Try.pinned (OpenSpec.ofChange queuePlaysWrong)

/-- 'whipcordlaw.CidrRanges': WHATEVER THE INPUT: true; the input reads as it did. -/
def cidrRangesSpec : ChangeSpec := { name := "cidrRanges", fn := fun _ => fun
  | [d1, d2] => { results := [.lit (.bool true)], args := [d1, d2] }
  | _ => none }
def cidrRangesRow : OpenClaim := { program := "ytonelibgaceflaa", sum := "0c651ad9fbb955e28362b43cc6c40394413bc0019fd8fa01e762daa2409157e7", func := "whipcord/whipcordlaw.CidrRanges", spec := "cidrRanges", inPlace := ["math/bits.Add64", "math/bits.Sub64"], unfollowed := true, recurses := true, plainKeys := false, apart := false }
def CidrRangesSaid : Prop := cidrRangesRow.holds Try.pinned (OpenSpec.ofChange cidrRangesSpec)

/-- ITS FALSE NEIGHBOUR: 'it returns false'. Refute it at one input. -/
def cidrRangesWrong : ChangeSpec := { name := "cidrRanges", fn := fun _ => fun
  | [d1, d2] => { results := [.lit (.bool false)], args := [d1, d2] }
  | _ => none }
def CidrRangesWrongFalsely : Prop := cidrRangesRow.holds Try.pinned (OpenSpec.ofChange cidrRangesWrong)

/-- 'whipcordlaw.ClassHiddens': WHATEVER THE INPUT: true; the input reads as it did. -/
def classHiddensSpec : ChangeSpec := { name := "classHiddens", fn := fun _ => fun
  | [d] => { results := [.lit (.bool true)], args := [d] }
  | _ => none }
def classHiddensRow : OpenClaim := { program := "ytonelibgaceflaa", sum := "0c651ad9fbb955e28362b43cc6c40394413bc0019fd8fa01e762daa2409157e7", func := "whipcord/whipcordlaw.ClassHiddens", spec := "classHiddens", unfollowed := true, recurses := true, plainKeys := false, apart := false }
def ClassHiddensSaid : Prop := classHiddensRow.holds Try.pinned (OpenSpec.ofChange classHiddensSpec)

/-- ITS FALSE NEIGHBOUR: 'it returns false'. Refute it at one input. -/
def classHiddensWrong : ChangeSpec := { name := "classHiddens", fn := fun _ => fun
  | [d] => { results := [.lit (.bool false)], args := [d] }
  | _ => none }
def ClassHiddensWrongFalsely : Prop := classHiddensRow.holds Try.pinned (OpenSpec.ofChange classHiddensWrong)

/-- 'whipcordlaw.ClassFinds': WHATEVER THE INPUT: true; the input reads as it did. -/
def classFindsSpec : ChangeSpec := { name := "classFinds", fn := fun _ => fun
  | [d1, d2] => { results := [.lit (.bool true)], args := [d1, d2] }
  | _ => none }
def classFindsRow : OpenClaim := { program := "ytonelibgaceflaa", sum := "0c651ad9fbb955e28362b43cc6c40394413bc0019fd8fa01e762daa2409157e7", func := "whipcord/whipcordlaw.ClassFinds", spec := "classFinds", unfollowed := true, recurses := true, plainKeys := false, apart := false }
def ClassFindsSaid : Prop := classFindsRow.holds Try.pinned (OpenSpec.ofChange classFindsSpec)

/-- ITS FALSE NEIGHBOUR: 'it returns false'. Refute it at one input. -/
def classFindsWrong : ChangeSpec := { name := "classFinds", fn := fun _ => fun
  | [d1, d2] => { results := [.lit (.bool false)], args := [d1, d2] }
  | _ => none }
def ClassFindsWrongFalsely : Prop := classFindsRow.holds Try.pinned (OpenSpec.ofChange classFindsWrong)

/-- 'whipcordlaw.TableChecks': WHATEVER THE INPUT: true; the input reads as it did. -/
def tableChecksSpec : ChangeSpec := { name := "tableChecks", fn := fun _ => fun
  | [d] => { results := [.lit (.bool true)], args := [d] }
  | _ => none }
def tableChecksRow : OpenClaim := { program := "ytonelibgaceflaa", sum := "0c651ad9fbb955e28362b43cc6c40394413bc0019fd8fa01e762daa2409157e7", func := "whipcord/whipcordlaw.TableChecks", spec := "tableChecks", unfollowed := true, recurses := true, plainKeys := false, apart := false }
def TableChecksSaid : Prop := tableChecksRow.holds Try.pinned (OpenSpec.ofChange tableChecksSpec)

/-- ITS FALSE NEIGHBOUR: 'it returns false'. Refute it at one input. -/
def tableChecksWrong : ChangeSpec := { name := "tableChecks", fn := fun _ => fun
  | [d] => { results := [.lit (.bool false)], args := [d] }
  | _ => none }
def TableChecksWrongFalsely : Prop := tableChecksRow.holds Try.pinned (OpenSpec.ofChange tableChecksWrong)

/-- 'whipcordlaw.TableLooks': WHATEVER THE INPUT: true; the input reads as it did. -/
def tableLooksSpec : ChangeSpec := { name := "tableLooks", fn := fun _ => fun
  | [d1, d2] => { results := [.lit (.bool true)], args := [d1, d2] }
  | _ => none }
def tableLooksRow : OpenClaim := { program := "ytonelibgaceflaa", sum := "0c651ad9fbb955e28362b43cc6c40394413bc0019fd8fa01e762daa2409157e7", func := "whipcord/whipcordlaw.TableLooks", spec := "tableLooks", unfollowed := true, recurses := true, plainKeys := false, apart := false }
def TableLooksSaid : Prop := tableLooksRow.holds Try.pinned (OpenSpec.ofChange tableLooksSpec)

/-- ITS FALSE NEIGHBOUR: 'it returns false'. Refute it at one input. -/
def tableLooksWrong : ChangeSpec := { name := "tableLooks", fn := fun _ => fun
  | [d1, d2] => { results := [.lit (.bool false)], args := [d1, d2] }
  | _ => none }
def TableLooksWrongFalsely : Prop := tableLooksRow.holds Try.pinned (OpenSpec.ofChange tableLooksWrong)

/-- 'whipcordlaw.RuleFilters': WHATEVER THE INPUT: true; the input reads as it did. -/
def ruleFiltersSpec : ChangeSpec := { name := "ruleFilters", fn := fun _ => fun
  | [d1, d2] => { results := [.lit (.bool true)], args := [d1, d2] }
  | _ => none }
def ruleFiltersRow : OpenClaim := { program := "ytonelibgaceflaa", sum := "0c651ad9fbb955e28362b43cc6c40394413bc0019fd8fa01e762daa2409157e7", func := "whipcord/whipcordlaw.RuleFilters", spec := "ruleFilters", unfollowed := true, recurses := true, plainKeys := false, apart := false }
def RuleFiltersSaid : Prop := ruleFiltersRow.holds Try.pinned (OpenSpec.ofChange ruleFiltersSpec)

/-- ITS FALSE NEIGHBOUR: 'it returns false'. Refute it at one input. -/
def ruleFiltersWrong : ChangeSpec := { name := "ruleFilters", fn := fun _ => fun
  | [d1, d2] => { results := [.lit (.bool false)], args := [d1, d2] }
  | _ => none }
def RuleFiltersWrongFalsely : Prop := ruleFiltersRow.holds Try.pinned (OpenSpec.ofChange ruleFiltersWrong)

/-- 'whipcordlaw.StrideMakes': WHATEVER THE INPUT: true; the input reads as it did. -/
def strideMakesSpec : ChangeSpec := { name := "strideMakes", fn := fun _ => fun
  | [d] => { results := [.lit (.bool true)], args := [d] }
  | _ => none }
def strideMakesRow : OpenClaim := { program := "ytonelibgaceflaa", sum := "0c651ad9fbb955e28362b43cc6c40394413bc0019fd8fa01e762daa2409157e7", func := "whipcord/whipcordlaw.StrideMakes", spec := "strideMakes", unfollowed := true, recurses := true, plainKeys := false, apart := false }
def StrideMakesSaid : Prop := strideMakesRow.holds Try.pinned (OpenSpec.ofChange strideMakesSpec)

/-- ITS FALSE NEIGHBOUR: 'it returns false'. Refute it at one input. -/
def strideMakesWrong : ChangeSpec := { name := "strideMakes", fn := fun _ => fun
  | [d] => { results := [.lit (.bool false)], args := [d] }
  | _ => none }
def StrideMakesWrongFalsely : Prop := strideMakesRow.holds Try.pinned (OpenSpec.ofChange strideMakesWrong)

/-- 'whipcordlaw.ShareTurns': WHATEVER THE INPUT: true; the input reads as it did. -/
def shareTurnsSpec : ChangeSpec := { name := "shareTurns", fn := fun _ => fun
  | [d1, d2] => { results := [.lit (.bool true)], args := [d1, d2] }
  | _ => none }
def shareTurnsRow : OpenClaim := { program := "ytonelibgaceflaa", sum := "0c651ad9fbb955e28362b43cc6c40394413bc0019fd8fa01e762daa2409157e7", func := "whipcord/whipcordlaw.ShareTurns", spec := "shareTurns", unfollowed := true, recurses := true, plainKeys := false, apart := false }
def ShareTurnsSaid : Prop := shareTurnsRow.holds Try.pinned (OpenSpec.ofChange shareTurnsSpec)

/-- ITS FALSE NEIGHBOUR: 'it returns false'. Refute it at one input. -/
def shareTurnsWrong : ChangeSpec := { name := "shareTurns", fn := fun _ => fun
  | [d1, d2] => { results := [.lit (.bool false)], args := [d1, d2] }
  | _ => none }
def ShareTurnsWrongFalsely : Prop := shareTurnsRow.holds Try.pinned (OpenSpec.ofChange shareTurnsWrong)

/-- 'whipcordlaw.ShareDeals': WHATEVER THE INPUT: true; the input reads as it did. -/
def shareDealsSpec : ChangeSpec := { name := "shareDeals", fn := fun _ => fun
  | [d1, d2] => { results := [.lit (.bool true)], args := [d1, d2] }
  | _ => none }
def shareDealsRow : OpenClaim := { program := "ytonelibgaceflaa", sum := "0c651ad9fbb955e28362b43cc6c40394413bc0019fd8fa01e762daa2409157e7", func := "whipcord/whipcordlaw.ShareDeals", spec := "shareDeals", unfollowed := true, recurses := true, plainKeys := false, apart := false }
def ShareDealsSaid : Prop := shareDealsRow.holds Try.pinned (OpenSpec.ofChange shareDealsSpec)

/-- ITS FALSE NEIGHBOUR: 'it returns false'. Refute it at one input. -/
def shareDealsWrong : ChangeSpec := { name := "shareDeals", fn := fun _ => fun
  | [d1, d2] => { results := [.lit (.bool false)], args := [d1, d2] }
  | _ => none }
def ShareDealsWrongFalsely : Prop := shareDealsRow.holds Try.pinned (OpenSpec.ofChange shareDealsWrong)

/-- 'whipcordlaw.FewestSames': WHATEVER THE INPUT: true; the input reads as it did. -/
def fewestSamesSpec : ChangeSpec := { name := "fewestSames", fn := fun _ => fun
  | [d1, d2] => { results := [.lit (.bool true)], args := [d1, d2] }
  | _ => none }
def fewestSamesRow : OpenClaim := { program := "ytonelibgaceflaa", sum := "0c651ad9fbb955e28362b43cc6c40394413bc0019fd8fa01e762daa2409157e7", func := "whipcord/whipcordlaw.FewestSames", spec := "fewestSames", inPlace := ["math/bits.Add64", "math/bits.Sub64"], unfollowed := true, recurses := true, plainKeys := false, apart := false }
def FewestSamesSaid : Prop := fewestSamesRow.holds Try.pinned (OpenSpec.ofChange fewestSamesSpec)

/-- ITS FALSE NEIGHBOUR: 'it returns false'. Refute it at one input. -/
def fewestSamesWrong : ChangeSpec := { name := "fewestSames", fn := fun _ => fun
  | [d1, d2] => { results := [.lit (.bool false)], args := [d1, d2] }
  | _ => none }
def FewestSamesWrongFalsely : Prop := fewestSamesRow.holds Try.pinned (OpenSpec.ofChange fewestSamesWrong)

/-- 'whipcordlaw.PairPlays': WHATEVER THE INPUT: true; the input reads as it did. -/
def pairPlaysSpec : ChangeSpec := { name := "pairPlays", fn := fun _ => fun
  | [d1, d2] => { results := [.lit (.bool true)], args := [d1, d2] }
  | _ => none }
def pairPlaysRow : OpenClaim := { program := "ytonelibgaceflaa", sum := "0c651ad9fbb955e28362b43cc6c40394413bc0019fd8fa01e762daa2409157e7", func := "whipcord/whipcordlaw.PairPlays", spec := "pairPlays", unfollowed := true, recurses := true, plainKeys := false, apart := false }
def PairPlaysSaid : Prop := pairPlaysRow.holds Try.pinned (OpenSpec.ofChange pairPlaysSpec)

/-- ITS FALSE NEIGHBOUR: 'it returns false'. Refute it at one input. -/
def pairPlaysWrong : ChangeSpec := { name := "pairPlays", fn := fun _ => fun
  | [d1, d2] => { results := [.lit (.bool false)], args := [d1, d2] }
  | _ => none }
def PairPlaysWrongFalsely : Prop := pairPlaysRow.holds Try.pinned (OpenSpec.ofChange pairPlaysWrong)

/-- 'whipcordlaw.PairFreeds': WHATEVER THE INPUT: true; the input reads as it did. -/
def pairFreedsSpec : ChangeSpec := { name := "pairFreeds", fn := fun _ => fun
  | [d1, d2] => { results := [.lit (.bool true)], args := [d1, d2] }
  | _ => none }
def pairFreedsRow : OpenClaim := { program := "ytonelibgaceflaa", sum := "0c651ad9fbb955e28362b43cc6c40394413bc0019fd8fa01e762daa2409157e7", func := "whipcord/whipcordlaw.PairFreeds", spec := "pairFreeds", unfollowed := true, recurses := true, plainKeys := false, apart := false }
def PairFreedsSaid : Prop := pairFreedsRow.holds Try.pinned (OpenSpec.ofChange pairFreedsSpec)

/-- ITS FALSE NEIGHBOUR: 'it returns false'. Refute it at one input. -/
def pairFreedsWrong : ChangeSpec := { name := "pairFreeds", fn := fun _ => fun
  | [d1, d2] => { results := [.lit (.bool false)], args := [d1, d2] }
  | _ => none }
def PairFreedsWrongFalsely : Prop := pairFreedsRow.holds Try.pinned (OpenSpec.ofChange pairFreedsWrong)

/-- 'whipcordlaw.ViaAlls': WHATEVER THE INPUT: true; the input reads as it did. -/
def viaAllsSpec : ChangeSpec := { name := "viaAlls", fn := fun _ => fun
  | [d] => { results := [.lit (.bool true)], args := [d] }
  | _ => none }
def viaAllsRow : OpenClaim := { program := "ytonelibgaceflaa", sum := "0c651ad9fbb955e28362b43cc6c40394413bc0019fd8fa01e762daa2409157e7", func := "whipcord/whipcordlaw.ViaAlls", spec := "viaAlls", unfollowed := true, recurses := true, plainKeys := false, apart := false }
def ViaAllsSaid : Prop := viaAllsRow.holds Try.pinned (OpenSpec.ofChange viaAllsSpec)

/-- ITS FALSE NEIGHBOUR: 'it returns false'. Refute it at one input. -/
def viaAllsWrong : ChangeSpec := { name := "viaAlls", fn := fun _ => fun
  | [d] => { results := [.lit (.bool false)], args := [d] }
  | _ => none }
def ViaAllsWrongFalsely : Prop := viaAllsRow.holds Try.pinned (OpenSpec.ofChange viaAllsWrong)

/-- 'whipcordlaw.OfferBests': WHATEVER THE INPUT: true; the input reads as it did. -/
def offerBestsSpec : ChangeSpec := { name := "offerBests", fn := fun _ => fun
  | [d] => { results := [.lit (.bool true)], args := [d] }
  | _ => none }
def offerBestsRow : OpenClaim := { program := "ytonelibgaceflaa", sum := "0c651ad9fbb955e28362b43cc6c40394413bc0019fd8fa01e762daa2409157e7", func := "whipcord/whipcordlaw.OfferBests", spec := "offerBests", unfollowed := true, recurses := true, plainKeys := false, apart := false }
def OfferBestsSaid : Prop := offerBestsRow.holds Try.pinned (OpenSpec.ofChange offerBestsSpec)

/-- ITS FALSE NEIGHBOUR: 'it returns false'. Refute it at one input. -/
def offerBestsWrong : ChangeSpec := { name := "offerBests", fn := fun _ => fun
  | [d] => { results := [.lit (.bool false)], args := [d] }
  | _ => none }
def OfferBestsWrongFalsely : Prop := offerBestsRow.holds Try.pinned (OpenSpec.ofChange offerBestsWrong)

/-- 'whipcordlaw.OfferTables': WHATEVER THE INPUT: true; the input reads as it did. -/
def offerTablesSpec : ChangeSpec := { name := "offerTables", fn := fun _ => fun
  | [d] => { results := [.lit (.bool true)], args := [d] }
  | _ => none }
def offerTablesRow : OpenClaim := { program := "ytonelibgaceflaa", sum := "0c651ad9fbb955e28362b43cc6c40394413bc0019fd8fa01e762daa2409157e7", func := "whipcord/whipcordlaw.OfferTables", spec := "offerTables", unfollowed := true, recurses := true, plainKeys := false, apart := false }
def OfferTablesSaid : Prop := offerTablesRow.holds Try.pinned (OpenSpec.ofChange offerTablesSpec)

/-- ITS FALSE NEIGHBOUR: 'it returns false'. Refute it at one input. -/
def offerTablesWrong : ChangeSpec := { name := "offerTables", fn := fun _ => fun
  | [d] => { results := [.lit (.bool false)], args := [d] }
  | _ => none }
def OfferTablesWrongFalsely : Prop := offerTablesRow.holds Try.pinned (OpenSpec.ofChange offerTablesWrong)

/-- 'whipcordlaw.CidrMerges': WHATEVER THE INPUT: true; the input reads as it did. -/
def cidrMergesSpec : ChangeSpec := { name := "cidrMerges", fn := fun _ => fun
  | [d] => { results := [.lit (.bool true)], args := [d] }
  | _ => none }
def cidrMergesRow : OpenClaim := { program := "ytonelibgaceflaa", sum := "0c651ad9fbb955e28362b43cc6c40394413bc0019fd8fa01e762daa2409157e7", func := "whipcord/whipcordlaw.CidrMerges", spec := "cidrMerges", inPlace := ["math/bits.Add64", "math/bits.Sub64"], unfollowed := true, recurses := true, plainKeys := false, apart := false }
def CidrMergesSaid : Prop := cidrMergesRow.holds Try.pinned (OpenSpec.ofChange cidrMergesSpec)

/-- ITS FALSE NEIGHBOUR: 'it returns false'. Refute it at one input. -/
def cidrMergesWrong : ChangeSpec := { name := "cidrMerges", fn := fun _ => fun
  | [d] => { results := [.lit (.bool false)], args := [d] }
  | _ => none }
def CidrMergesWrongFalsely : Prop := cidrMergesRow.holds Try.pinned (OpenSpec.ofChange cidrMergesWrong)

/-- 'whipcordlaw.CidrBoths': WHATEVER THE INPUT: true; the input reads as it did. -/
def cidrBothsSpec : ChangeSpec := { name := "cidrBoths", fn := fun _ => fun
  | [d1, d2] => { results := [.lit (.bool true)], args := [d1, d2] }
  | _ => none }
def cidrBothsRow : OpenClaim := { program := "ytonelibgaceflaa", sum := "0c651ad9fbb955e28362b43cc6c40394413bc0019fd8fa01e762daa2409157e7", func := "whipcord/whipcordlaw.CidrBoths", spec := "cidrBoths", inPlace := ["math/bits.Add64", "math/bits.Sub64"], unfollowed := true, recurses := true, plainKeys := false, apart := false }
def CidrBothsSaid : Prop := cidrBothsRow.holds Try.pinned (OpenSpec.ofChange cidrBothsSpec)

/-- ITS FALSE NEIGHBOUR: 'it returns false'. Refute it at one input. -/
def cidrBothsWrong : ChangeSpec := { name := "cidrBoths", fn := fun _ => fun
  | [d1, d2] => { results := [.lit (.bool false)], args := [d1, d2] }
  | _ => none }
def CidrBothsWrongFalsely : Prop := cidrBothsRow.holds Try.pinned (OpenSpec.ofChange cidrBothsWrong)

/-- 'whipcordlaw.CidrMinuses': WHATEVER THE INPUT: true; the input reads as it did. -/
def cidrMinusesSpec : ChangeSpec := { name := "cidrMinuses", fn := fun _ => fun
  | [d1, d2] => { results := [.lit (.bool true)], args := [d1, d2] }
  | _ => none }
def cidrMinusesRow : OpenClaim := { program := "ytonelibgaceflaa", sum := "0c651ad9fbb955e28362b43cc6c40394413bc0019fd8fa01e762daa2409157e7", func := "whipcord/whipcordlaw.CidrMinuses", spec := "cidrMinuses", inPlace := ["math/bits.Add64", "math/bits.Sub64"], unfollowed := true, recurses := true, plainKeys := false, apart := false }
def CidrMinusesSaid : Prop := cidrMinusesRow.holds Try.pinned (OpenSpec.ofChange cidrMinusesSpec)

/-- ITS FALSE NEIGHBOUR: 'it returns false'. Refute it at one input. -/
def cidrMinusesWrong : ChangeSpec := { name := "cidrMinuses", fn := fun _ => fun
  | [d1, d2] => { results := [.lit (.bool false)], args := [d1, d2] }
  | _ => none }
def CidrMinusesWrongFalsely : Prop := cidrMinusesRow.holds Try.pinned (OpenSpec.ofChange cidrMinusesWrong)

/- THE SECOND FORM. 'bulk': how many values and letters a reading holds, each counted each time it is reached (what is shared counts as often as it is met; a slice's spare places count too). A statement '..UptoSaid' is the law's where the arguments, and the package variables that the reading takes, are together of bulk at most 1048576: NARROWER than '..Said'. Prove '..Said' where nothing that the law and all that it calls make is longer than what came in: it says more and counts as full. Else prove '..UptoSaid'. A law counts once. -/
mutual
def uptoBulk {H : Type} : DataW H → Nat
  | .lit (.string bytes) => bytes.length + 1
  | .lit _ => 1
  | .nil => 1
  | .ptr d => uptoBulk d + 1
  | .slice elems spare => uptoBulkAll elems + uptoBulkAll spare + 1
  | .agg parts => uptoBulkAll parts + 1
  | .iface _ d => uptoBulk d + 1
  | .map entries => uptoBulkEntries entries + 1
  | .held _ => 1
def uptoBulkAll {H : Type} : List (DataW H) → Nat
  | [] => 0
  | d :: r => uptoBulk d + uptoBulkAll r
def uptoBulkEntries {H : Type} : List (Lit × DataW H) → Nat
  | [] => 0
  | x :: r => uptoBulkEntry x + uptoBulkEntries r
def uptoBulkEntry {H : Type} : Lit × DataW H → Nat
  | (.string bytes, d) => bytes.length + uptoBulk d + 1
  | (_, d) => uptoBulk d + 1
 end
def uptoSmall : (H : Type) → List (DataW H) → Bool := fun _ ds => decide (uptoBulkAll ds ≤ 1048576)
def OpenSpec.upto (s : _root_.Go.ChangeSpec) : _root_.Go.OpenSpec := { _root_.Go.OpenSpec.ofChange s with cond := some uptoSmall }

/-- 'whipcordtop.TopRange', WHERE WHAT IT READS IS OF BULK AT MOST 1048576: true; the input reads as it did. -/
def topRangeUptoRow : OpenClaim := { program := "ytonelibgaceflaa", sum := "0c651ad9fbb955e28362b43cc6c40394413bc0019fd8fa01e762daa2409157e7", func := "whipcord/whipcordtop.TopRange", spec := "topRange", inPlace := ["math/bits.Add64", "math/bits.Sub64"], unfollowed := true, recurses := true, plainKeys := false, apart := false, narrowed := true }
def TopRangeUptoSaid : Prop := topRangeUptoRow.holds Try.pinned (OpenSpec.upto topRangeSpec)

/-- 'whipcordlaw.RuleIdles', WHERE WHAT IT READS IS OF BULK AT MOST 1048576: true; the input reads as it did. -/
def ruleIdlesUptoRow : OpenClaim := { program := "ytonelibgaceflaa", sum := "0c651ad9fbb955e28362b43cc6c40394413bc0019fd8fa01e762daa2409157e7", func := "whipcord/whipcordlaw.RuleIdles", spec := "ruleIdles", unfollowed := true, recurses := true, plainKeys := false, apart := false, narrowed := true }
def RuleIdlesUptoSaid : Prop := ruleIdlesUptoRow.holds Try.pinned (OpenSpec.upto ruleIdlesSpec)

/-- 'whipcordlaw.QueuePlays', WHERE WHAT IT READS IS OF BULK AT MOST 1048576: true; the input reads as it did. -/
def queuePlaysUptoRow : OpenClaim := { program := "ytonelibgaceflaa", sum := "0c651ad9fbb955e28362b43cc6c40394413bc0019fd8fa01e762daa2409157e7", func := "whipcord/whipcordlaw.QueuePlays", spec := "queuePlays", unfollowed := true, recurses := true, plainKeys := false, apart := false, narrowed := true }
def QueuePlaysUptoSaid : Prop := queuePlaysUptoRow.holds Try.pinned (OpenSpec.upto queuePlaysSpec)

/-- 'whipcordlaw.CidrRanges', WHERE WHAT IT READS IS OF BULK AT MOST 1048576: true; the input reads as it did. -/
def cidrRangesUptoRow : OpenClaim := { program := "ytonelibgaceflaa", sum := "0c651ad9fbb955e28362b43cc6c40394413bc0019fd8fa01e762daa2409157e7", func := "whipcord/whipcordlaw.CidrRanges", spec := "cidrRanges", inPlace := ["math/bits.Add64", "math/bits.Sub64"], unfollowed := true, recurses := true, plainKeys := false, apart := false, narrowed := true }
def CidrRangesUptoSaid : Prop := cidrRangesUptoRow.holds Try.pinned (OpenSpec.upto cidrRangesSpec)

/-- 'whipcordlaw.ClassHiddens', WHERE WHAT IT READS IS OF BULK AT MOST 1048576: true; the input reads as it did. -/
def classHiddensUptoRow : OpenClaim := { program := "ytonelibgaceflaa", sum := "0c651ad9fbb955e28362b43cc6c40394413bc0019fd8fa01e762daa2409157e7", func := "whipcord/whipcordlaw.ClassHiddens", spec := "classHiddens", unfollowed := true, recurses := true, plainKeys := false, apart := false, narrowed := true }
def ClassHiddensUptoSaid : Prop := classHiddensUptoRow.holds Try.pinned (OpenSpec.upto classHiddensSpec)

/-- 'whipcordlaw.ClassFinds', WHERE WHAT IT READS IS OF BULK AT MOST 1048576: true; the input reads as it did. -/
def classFindsUptoRow : OpenClaim := { program := "ytonelibgaceflaa", sum := "0c651ad9fbb955e28362b43cc6c40394413bc0019fd8fa01e762daa2409157e7", func := "whipcord/whipcordlaw.ClassFinds", spec := "classFinds", unfollowed := true, recurses := true, plainKeys := false, apart := false, narrowed := true }
def ClassFindsUptoSaid : Prop := classFindsUptoRow.holds Try.pinned (OpenSpec.upto classFindsSpec)

/-- 'whipcordlaw.TableChecks', WHERE WHAT IT READS IS OF BULK AT MOST 1048576: true; the input reads as it did. -/
def tableChecksUptoRow : OpenClaim := { program := "ytonelibgaceflaa", sum := "0c651ad9fbb955e28362b43cc6c40394413bc0019fd8fa01e762daa2409157e7", func := "whipcord/whipcordlaw.TableChecks", spec := "tableChecks", unfollowed := true, recurses := true, plainKeys := false, apart := false, narrowed := true }
def TableChecksUptoSaid : Prop := tableChecksUptoRow.holds Try.pinned (OpenSpec.upto tableChecksSpec)

/-- 'whipcordlaw.TableLooks', WHERE WHAT IT READS IS OF BULK AT MOST 1048576: true; the input reads as it did. -/
def tableLooksUptoRow : OpenClaim := { program := "ytonelibgaceflaa", sum := "0c651ad9fbb955e28362b43cc6c40394413bc0019fd8fa01e762daa2409157e7", func := "whipcord/whipcordlaw.TableLooks", spec := "tableLooks", unfollowed := true, recurses := true, plainKeys := false, apart := false, narrowed := true }
def TableLooksUptoSaid : Prop := tableLooksUptoRow.holds Try.pinned (OpenSpec.upto tableLooksSpec)

/-- 'whipcordlaw.RuleFilters', WHERE WHAT IT READS IS OF BULK AT MOST 1048576: true; the input reads as it did. -/
def ruleFiltersUptoRow : OpenClaim := { program := "ytonelibgaceflaa", sum := "0c651ad9fbb955e28362b43cc6c40394413bc0019fd8fa01e762daa2409157e7", func := "whipcord/whipcordlaw.RuleFilters", spec := "ruleFilters", unfollowed := true, recurses := true, plainKeys := false, apart := false, narrowed := true }
def RuleFiltersUptoSaid : Prop := ruleFiltersUptoRow.holds Try.pinned (OpenSpec.upto ruleFiltersSpec)

/-- 'whipcordlaw.StrideMakes', WHERE WHAT IT READS IS OF BULK AT MOST 1048576: true; the input reads as it did. -/
def strideMakesUptoRow : OpenClaim := { program := "ytonelibgaceflaa", sum := "0c651ad9fbb955e28362b43cc6c40394413bc0019fd8fa01e762daa2409157e7", func := "whipcord/whipcordlaw.StrideMakes", spec := "strideMakes", unfollowed := true, recurses := true, plainKeys := false, apart := false, narrowed := true }
def StrideMakesUptoSaid : Prop := strideMakesUptoRow.holds Try.pinned (OpenSpec.upto strideMakesSpec)

/-- 'whipcordlaw.ShareTurns', WHERE WHAT IT READS IS OF BULK AT MOST 1048576: true; the input reads as it did. -/
def shareTurnsUptoRow : OpenClaim := { program := "ytonelibgaceflaa", sum := "0c651ad9fbb955e28362b43cc6c40394413bc0019fd8fa01e762daa2409157e7", func := "whipcord/whipcordlaw.ShareTurns", spec := "shareTurns", unfollowed := true, recurses := true, plainKeys := false, apart := false, narrowed := true }
def ShareTurnsUptoSaid : Prop := shareTurnsUptoRow.holds Try.pinned (OpenSpec.upto shareTurnsSpec)

/-- 'whipcordlaw.ShareDeals', WHERE WHAT IT READS IS OF BULK AT MOST 1048576: true; the input reads as it did. -/
def shareDealsUptoRow : OpenClaim := { program := "ytonelibgaceflaa", sum := "0c651ad9fbb955e28362b43cc6c40394413bc0019fd8fa01e762daa2409157e7", func := "whipcord/whipcordlaw.ShareDeals", spec := "shareDeals", unfollowed := true, recurses := true, plainKeys := false, apart := false, narrowed := true }
def ShareDealsUptoSaid : Prop := shareDealsUptoRow.holds Try.pinned (OpenSpec.upto shareDealsSpec)

/-- 'whipcordlaw.FewestSames', WHERE WHAT IT READS IS OF BULK AT MOST 1048576: true; the input reads as it did. -/
def fewestSamesUptoRow : OpenClaim := { program := "ytonelibgaceflaa", sum := "0c651ad9fbb955e28362b43cc6c40394413bc0019fd8fa01e762daa2409157e7", func := "whipcord/whipcordlaw.FewestSames", spec := "fewestSames", inPlace := ["math/bits.Add64", "math/bits.Sub64"], unfollowed := true, recurses := true, plainKeys := false, apart := false, narrowed := true }
def FewestSamesUptoSaid : Prop := fewestSamesUptoRow.holds Try.pinned (OpenSpec.upto fewestSamesSpec)

/-- 'whipcordlaw.PairPlays', WHERE WHAT IT READS IS OF BULK AT MOST 1048576: true; the input reads as it did. -/
def pairPlaysUptoRow : OpenClaim := { program := "ytonelibgaceflaa", sum := "0c651ad9fbb955e28362b43cc6c40394413bc0019fd8fa01e762daa2409157e7", func := "whipcord/whipcordlaw.PairPlays", spec := "pairPlays", unfollowed := true, recurses := true, plainKeys := false, apart := false, narrowed := true }
def PairPlaysUptoSaid : Prop := pairPlaysUptoRow.holds Try.pinned (OpenSpec.upto pairPlaysSpec)

/-- 'whipcordlaw.PairFreeds', WHERE WHAT IT READS IS OF BULK AT MOST 1048576: true; the input reads as it did. -/
def pairFreedsUptoRow : OpenClaim := { program := "ytonelibgaceflaa", sum := "0c651ad9fbb955e28362b43cc6c40394413bc0019fd8fa01e762daa2409157e7", func := "whipcord/whipcordlaw.PairFreeds", spec := "pairFreeds", unfollowed := true, recurses := true, plainKeys := false, apart := false, narrowed := true }
def PairFreedsUptoSaid : Prop := pairFreedsUptoRow.holds Try.pinned (OpenSpec.upto pairFreedsSpec)

/-- 'whipcordlaw.ViaAlls', WHERE WHAT IT READS IS OF BULK AT MOST 1048576: true; the input reads as it did. -/
def viaAllsUptoRow : OpenClaim := { program := "ytonelibgaceflaa", sum := "0c651ad9fbb955e28362b43cc6c40394413bc0019fd8fa01e762daa2409157e7", func := "whipcord/whipcordlaw.ViaAlls", spec := "viaAlls", unfollowed := true, recurses := true, plainKeys := false, apart := false, narrowed := true }
def ViaAllsUptoSaid : Prop := viaAllsUptoRow.holds Try.pinned (OpenSpec.upto viaAllsSpec)

/-- 'whipcordlaw.OfferBests', WHERE WHAT IT READS IS OF BULK AT MOST 1048576: true; the input reads as it did. -/
def offerBestsUptoRow : OpenClaim := { program := "ytonelibgaceflaa", sum := "0c651ad9fbb955e28362b43cc6c40394413bc0019fd8fa01e762daa2409157e7", func := "whipcord/whipcordlaw.OfferBests", spec := "offerBests", unfollowed := true, recurses := true, plainKeys := false, apart := false, narrowed := true }
def OfferBestsUptoSaid : Prop := offerBestsUptoRow.holds Try.pinned (OpenSpec.upto offerBestsSpec)

/-- 'whipcordlaw.OfferTables', WHERE WHAT IT READS IS OF BULK AT MOST 1048576: true; the input reads as it did. -/
def offerTablesUptoRow : OpenClaim := { program := "ytonelibgaceflaa", sum := "0c651ad9fbb955e28362b43cc6c40394413bc0019fd8fa01e762daa2409157e7", func := "whipcord/whipcordlaw.OfferTables", spec := "offerTables", unfollowed := true, recurses := true, plainKeys := false, apart := false, narrowed := true }
def OfferTablesUptoSaid : Prop := offerTablesUptoRow.holds Try.pinned (OpenSpec.upto offerTablesSpec)

/-- 'whipcordlaw.CidrMerges', WHERE WHAT IT READS IS OF BULK AT MOST 1048576: true; the input reads as it did. -/
def cidrMergesUptoRow : OpenClaim := { program := "ytonelibgaceflaa", sum := "0c651ad9fbb955e28362b43cc6c40394413bc0019fd8fa01e762daa2409157e7", func := "whipcord/whipcordlaw.CidrMerges", spec := "cidrMerges", inPlace := ["math/bits.Add64", "math/bits.Sub64"], unfollowed := true, recurses := true, plainKeys := false, apart := false, narrowed := true }
def CidrMergesUptoSaid : Prop := cidrMergesUptoRow.holds Try.pinned (OpenSpec.upto cidrMergesSpec)

/-- 'whipcordlaw.CidrBoths', WHERE WHAT IT READS IS OF BULK AT MOST 1048576: true; the input reads as it did. -/
def cidrBothsUptoRow : OpenClaim := { program := "ytonelibgaceflaa", sum := "0c651ad9fbb955e28362b43cc6c40394413bc0019fd8fa01e762daa2409157e7", func := "whipcord/whipcordlaw.CidrBoths", spec := "cidrBoths", inPlace := ["math/bits.Add64", "math/bits.Sub64"], unfollowed := true, recurses := true, plainKeys := false, apart := false, narrowed := true }
def CidrBothsUptoSaid : Prop := cidrBothsUptoRow.holds Try.pinned (OpenSpec.upto cidrBothsSpec)

/-- 'whipcordlaw.CidrMinuses', WHERE WHAT IT READS IS OF BULK AT MOST 1048576: true; the input reads as it did. -/
def cidrMinusesUptoRow : OpenClaim := { program := "ytonelibgaceflaa", sum := "0c651ad9fbb955e28362b43cc6c40394413bc0019fd8fa01e762daa2409157e7", func := "whipcord/whipcordlaw.CidrMinuses", spec := "cidrMinuses", inPlace := ["math/bits.Add64", "math/bits.Sub64"], unfollowed := true, recurses := true, plainKeys := false, apart := false, narrowed := true }
def CidrMinusesUptoSaid : Prop := cidrMinusesUptoRow.holds Try.pinned (OpenSpec.upto cidrMinusesSpec)

end Rows
end Go.Proofs.Ytonelibgaceflaa
