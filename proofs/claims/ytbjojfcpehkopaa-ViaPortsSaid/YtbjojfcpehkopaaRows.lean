/-
  No cell of these rows narrows 'for every input' (looked for: loops, veiled, ifaces, maps, wideKeys, modest, calm, conditions, laid).
  DERIVED. THE GIVEN ROWS OF THIS SEAT. 16 by the template 'for every input the law returns true; each argument reads behind the call as it read before'; 0 by the template 'total and deterministic' (their statements: YtbjojfcpehkopaaTotals.lean).
  GIVEN WITH THE SEED: the statements are not yours to turn. If you find one false, say at which input.
  Laid BY PROGRAM, IN A SANDBOX (cutbox-rows.mjs): the forced cells as the released guide's own fill.sh prints them over the translation daa4509b91ffd23b… (all of the seat's roots in one cut). By AI agents, Wed Nov 11 2026. No macro, syntax, notation, axiom, sorry.
-/
import Derived.Test.YtbjojfcpehkopaaChecked
import GoSem.Claim
import GoSem.ClaimJoined
import GoSem.ClaimMapViews
import Derived.JoinedTies
import Derived.KernelRfl
namespace Go.Proofs.Ytbjojfcpehkopaa
/- THE CELL 'sum', in the pinned program and in every row, IS THE sha256 OF THE DUMP (.gsa) THAT YtbjojfcpehkopaaProg.lean LOADS. Nothing in Lean hashes anything: it is a label: what it is worth is what the hold of that sum in a sandbox is worth. -/
noncomputable def Try.pinned : Pinned := { name := "ytbjojfcpehkopaa", sum := "daa4509b91ffd23b35392ec403a01025727eec7ebd41789b2600c37d2d9ac6c2", checked := Try.checked }
namespace Rows
def none {H : Type} : Left H := { results := [], args := [] }

/-- 'whipcordlaw.RuleChecks': WHATEVER THE INPUT: true; the input reads as it did. -/
def ruleChecksSpec : ChangeSpec := { name := "ruleChecks", fn := fun _ => fun
  | [d] => { results := [.lit (.bool true)], args := [d] }
  | _ => none }
def ruleChecksRow : OpenClaim := { program := "ytbjojfcpehkopaa", sum := "daa4509b91ffd23b35392ec403a01025727eec7ebd41789b2600c37d2d9ac6c2", func := "whipcord/whipcordlaw.RuleChecks", spec := "ruleChecks", unfollowed := true, recurses := true, apart := false }
def RuleChecksSaid : Prop := ruleChecksRow.holds Try.pinned (OpenSpec.ofChange ruleChecksSpec)

/-- ITS FALSE NEIGHBOUR: 'it returns false'. Refute it at one input. -/
def ruleChecksWrong : ChangeSpec := { name := "ruleChecks", fn := fun _ => fun
  | [d] => { results := [.lit (.bool false)], args := [d] }
  | _ => none }
def RuleChecksWrongFalsely : Prop := ruleChecksRow.holds Try.pinned (OpenSpec.ofChange ruleChecksWrong)

/-- 'whipcordlaw.ClassChecks': WHATEVER THE INPUT: true; the input reads as it did. -/
def classChecksSpec : ChangeSpec := { name := "classChecks", fn := fun _ => fun
  | [d] => { results := [.lit (.bool true)], args := [d] }
  | _ => none }
def classChecksRow : OpenClaim := { program := "ytbjojfcpehkopaa", sum := "daa4509b91ffd23b35392ec403a01025727eec7ebd41789b2600c37d2d9ac6c2", func := "whipcord/whipcordlaw.ClassChecks", spec := "classChecks", unfollowed := true, recurses := true, apart := false }
def ClassChecksSaid : Prop := classChecksRow.holds Try.pinned (OpenSpec.ofChange classChecksSpec)

/-- ITS FALSE NEIGHBOUR: 'it returns false'. Refute it at one input. -/
def classChecksWrong : ChangeSpec := { name := "classChecks", fn := fun _ => fun
  | [d] => { results := [.lit (.bool false)], args := [d] }
  | _ => none }
def ClassChecksWrongFalsely : Prop := classChecksRow.holds Try.pinned (OpenSpec.ofChange classChecksWrong)

/-- 'whipcordlaw.PreCovers': WHATEVER THE INPUT: true; the input reads as it did. -/
def preCoversSpec : ChangeSpec := { name := "preCovers", fn := fun _ => fun
  | [d1, d2] => { results := [.lit (.bool true)], args := [d1, d2] }
  | _ => none }
def preCoversRow : OpenClaim := { program := "ytbjojfcpehkopaa", sum := "daa4509b91ffd23b35392ec403a01025727eec7ebd41789b2600c37d2d9ac6c2", func := "whipcord/whipcordlaw.PreCovers", spec := "preCovers", unfollowed := true, recurses := true, apart := false }
def PreCoversSaid : Prop := preCoversRow.holds Try.pinned (OpenSpec.ofChange preCoversSpec)

/-- ITS FALSE NEIGHBOUR: 'it returns false'. Refute it at one input. -/
def preCoversWrong : ChangeSpec := { name := "preCovers", fn := fun _ => fun
  | [d1, d2] => { results := [.lit (.bool false)], args := [d1, d2] }
  | _ => none }
def PreCoversWrongFalsely : Prop := preCoversRow.holds Try.pinned (OpenSpec.ofChange preCoversWrong)

/-- 'whipcordlaw.PreHalves': WHATEVER THE INPUT: true; the input reads as it did. -/
def preHalvesSpec : ChangeSpec := { name := "preHalves", fn := fun _ => fun
  | [d] => { results := [.lit (.bool true)], args := [d] }
  | _ => none }
def preHalvesRow : OpenClaim := { program := "ytbjojfcpehkopaa", sum := "daa4509b91ffd23b35392ec403a01025727eec7ebd41789b2600c37d2d9ac6c2", func := "whipcord/whipcordlaw.PreHalves", spec := "preHalves", unfollowed := true, recurses := true, apart := false }
def PreHalvesSaid : Prop := preHalvesRow.holds Try.pinned (OpenSpec.ofChange preHalvesSpec)

/-- ITS FALSE NEIGHBOUR: 'it returns false'. Refute it at one input. -/
def preHalvesWrong : ChangeSpec := { name := "preHalves", fn := fun _ => fun
  | [d] => { results := [.lit (.bool false)], args := [d] }
  | _ => none }
def PreHalvesWrongFalsely : Prop := preHalvesRow.holds Try.pinned (OpenSpec.ofChange preHalvesWrong)

/-- 'whipcordlaw.ViaPorts': WHATEVER THE INPUT: true; the input reads as it did. -/
def viaPortsSpec : ChangeSpec := { name := "viaPorts", fn := fun _ => fun
  | [d1, d2] => { results := [.lit (.bool true)], args := [d1, d2] }
  | _ => none }
def viaPortsRow : OpenClaim := { program := "ytbjojfcpehkopaa", sum := "daa4509b91ffd23b35392ec403a01025727eec7ebd41789b2600c37d2d9ac6c2", func := "whipcord/whipcordlaw.ViaPorts", spec := "viaPorts", recurses := true, apart := false }
def ViaPortsSaid : Prop := viaPortsRow.holds Try.pinned (OpenSpec.ofChange viaPortsSpec)

/-- ITS FALSE NEIGHBOUR: 'it returns false'. Refute it at one input. -/
def viaPortsWrong : ChangeSpec := { name := "viaPorts", fn := fun _ => fun
  | [d1, d2] => { results := [.lit (.bool false)], args := [d1, d2] }
  | _ => none }
def ViaPortsWrongFalsely : Prop := viaPortsRow.holds Try.pinned (OpenSpec.ofChange viaPortsWrong)

/-- 'whipcordlaw.RulePasses': WHATEVER THE INPUT: true; the input reads as it did. -/
def rulePassesSpec : ChangeSpec := { name := "rulePasses", fn := fun _ => fun
  | [d1, d2] => { results := [.lit (.bool true)], args := [d1, d2] }
  | _ => none }
def rulePassesRow : OpenClaim := { program := "ytbjojfcpehkopaa", sum := "daa4509b91ffd23b35392ec403a01025727eec7ebd41789b2600c37d2d9ac6c2", func := "whipcord/whipcordlaw.RulePasses", spec := "rulePasses", unfollowed := true, recurses := true, apart := false }
def RulePassesSaid : Prop := rulePassesRow.holds Try.pinned (OpenSpec.ofChange rulePassesSpec)

/-- ITS FALSE NEIGHBOUR: 'it returns false'. Refute it at one input. -/
def rulePassesWrong : ChangeSpec := { name := "rulePasses", fn := fun _ => fun
  | [d1, d2] => { results := [.lit (.bool false)], args := [d1, d2] }
  | _ => none }
def RulePassesWrongFalsely : Prop := rulePassesRow.holds Try.pinned (OpenSpec.ofChange rulePassesWrong)

/-- 'whipcordlaw.PreCommons': WHATEVER THE INPUT: true; the input reads as it did. -/
def preCommonsSpec : ChangeSpec := { name := "preCommons", fn := fun _ => fun
  | [d1, d2] => { results := [.lit (.bool true)], args := [d1, d2] }
  | _ => none }
def preCommonsRow : OpenClaim := { program := "ytbjojfcpehkopaa", sum := "daa4509b91ffd23b35392ec403a01025727eec7ebd41789b2600c37d2d9ac6c2", func := "whipcord/whipcordlaw.PreCommons", spec := "preCommons", unfollowed := true, recurses := true, apart := false }
def PreCommonsSaid : Prop := preCommonsRow.holds Try.pinned (OpenSpec.ofChange preCommonsSpec)

/-- ITS FALSE NEIGHBOUR: 'it returns false'. Refute it at one input. -/
def preCommonsWrong : ChangeSpec := { name := "preCommons", fn := fun _ => fun
  | [d1, d2] => { results := [.lit (.bool false)], args := [d1, d2] }
  | _ => none }
def PreCommonsWrongFalsely : Prop := preCommonsRow.holds Try.pinned (OpenSpec.ofChange preCommonsWrong)

/-- 'whipcordlaw.RuleIdles': WHATEVER THE INPUT: true; the input reads as it did. -/
def ruleIdlesSpec : ChangeSpec := { name := "ruleIdles", fn := fun _ => fun
  | [d] => { results := [.lit (.bool true)], args := [d] }
  | _ => none }
def ruleIdlesRow : OpenClaim := { program := "ytbjojfcpehkopaa", sum := "daa4509b91ffd23b35392ec403a01025727eec7ebd41789b2600c37d2d9ac6c2", func := "whipcord/whipcordlaw.RuleIdles", spec := "ruleIdles", unfollowed := true, recurses := true, apart := false }
def RuleIdlesSaid : Prop := ruleIdlesRow.holds Try.pinned (OpenSpec.ofChange ruleIdlesSpec)

/-- ITS FALSE NEIGHBOUR: 'it returns false'. Refute it at one input. -/
def ruleIdlesWrong : ChangeSpec := { name := "ruleIdles", fn := fun _ => fun
  | [d] => { results := [.lit (.bool false)], args := [d] }
  | _ => none }
def RuleIdlesWrongFalsely : Prop := ruleIdlesRow.holds Try.pinned (OpenSpec.ofChange ruleIdlesWrong)

/-- 'whipcordlaw.QueuePlays': WHATEVER THE INPUT: true; the input reads as it did. -/
def queuePlaysSpec : ChangeSpec := { name := "queuePlays", fn := fun _ => fun
  | [d] => { results := [.lit (.bool true)], args := [d] }
  | _ => none }
def queuePlaysRow : OpenClaim := { program := "ytbjojfcpehkopaa", sum := "daa4509b91ffd23b35392ec403a01025727eec7ebd41789b2600c37d2d9ac6c2", func := "whipcord/whipcordlaw.QueuePlays", spec := "queuePlays", unfollowed := true, recurses := true, apart := false }
def QueuePlaysSaid : Prop := queuePlaysRow.holds Try.pinned (OpenSpec.ofChange queuePlaysSpec)

/-- ITS FALSE NEIGHBOUR: 'it returns false'. Refute it at one input. -/
def queuePlaysWrong : ChangeSpec := { name := "queuePlays", fn := fun _ => fun
  | [d] => { results := [.lit (.bool false)], args := [d] }
  | _ => none }
def QueuePlaysWrongFalsely : Prop := queuePlaysRow.holds Try.pinned (OpenSpec.ofChange queuePlaysWrong)

/-- 'whipcordlaw.CidrRanges': WHATEVER THE INPUT: true; the input reads as it did. -/
def cidrRangesSpec : ChangeSpec := { name := "cidrRanges", fn := fun _ => fun
  | [d1, d2] => { results := [.lit (.bool true)], args := [d1, d2] }
  | _ => none }
def cidrRangesRow : OpenClaim := { program := "ytbjojfcpehkopaa", sum := "daa4509b91ffd23b35392ec403a01025727eec7ebd41789b2600c37d2d9ac6c2", func := "whipcord/whipcordlaw.CidrRanges", spec := "cidrRanges", inPlace := ["math/bits.Add64", "math/bits.Sub64"], unfollowed := true, recurses := true, apart := false }
def CidrRangesSaid : Prop := cidrRangesRow.holds Try.pinned (OpenSpec.ofChange cidrRangesSpec)

/-- ITS FALSE NEIGHBOUR: 'it returns false'. Refute it at one input. -/
def cidrRangesWrong : ChangeSpec := { name := "cidrRanges", fn := fun _ => fun
  | [d1, d2] => { results := [.lit (.bool false)], args := [d1, d2] }
  | _ => none }
def CidrRangesWrongFalsely : Prop := cidrRangesRow.holds Try.pinned (OpenSpec.ofChange cidrRangesWrong)

/-- 'whipcordlaw.ClassHiddens': WHATEVER THE INPUT: true; the input reads as it did. -/
def classHiddensSpec : ChangeSpec := { name := "classHiddens", fn := fun _ => fun
  | [d] => { results := [.lit (.bool true)], args := [d] }
  | _ => none }
def classHiddensRow : OpenClaim := { program := "ytbjojfcpehkopaa", sum := "daa4509b91ffd23b35392ec403a01025727eec7ebd41789b2600c37d2d9ac6c2", func := "whipcord/whipcordlaw.ClassHiddens", spec := "classHiddens", unfollowed := true, recurses := true, apart := false }
def ClassHiddensSaid : Prop := classHiddensRow.holds Try.pinned (OpenSpec.ofChange classHiddensSpec)

/-- ITS FALSE NEIGHBOUR: 'it returns false'. Refute it at one input. -/
def classHiddensWrong : ChangeSpec := { name := "classHiddens", fn := fun _ => fun
  | [d] => { results := [.lit (.bool false)], args := [d] }
  | _ => none }
def ClassHiddensWrongFalsely : Prop := classHiddensRow.holds Try.pinned (OpenSpec.ofChange classHiddensWrong)

/-- 'whipcordlaw.ClassFinds': WHATEVER THE INPUT: true; the input reads as it did. -/
def classFindsSpec : ChangeSpec := { name := "classFinds", fn := fun _ => fun
  | [d1, d2] => { results := [.lit (.bool true)], args := [d1, d2] }
  | _ => none }
def classFindsRow : OpenClaim := { program := "ytbjojfcpehkopaa", sum := "daa4509b91ffd23b35392ec403a01025727eec7ebd41789b2600c37d2d9ac6c2", func := "whipcord/whipcordlaw.ClassFinds", spec := "classFinds", unfollowed := true, recurses := true, apart := false }
def ClassFindsSaid : Prop := classFindsRow.holds Try.pinned (OpenSpec.ofChange classFindsSpec)

/-- ITS FALSE NEIGHBOUR: 'it returns false'. Refute it at one input. -/
def classFindsWrong : ChangeSpec := { name := "classFinds", fn := fun _ => fun
  | [d1, d2] => { results := [.lit (.bool false)], args := [d1, d2] }
  | _ => none }
def ClassFindsWrongFalsely : Prop := classFindsRow.holds Try.pinned (OpenSpec.ofChange classFindsWrong)

/-- 'whipcordlaw.TableChecks': WHATEVER THE INPUT: true; the input reads as it did. -/
def tableChecksSpec : ChangeSpec := { name := "tableChecks", fn := fun _ => fun
  | [d] => { results := [.lit (.bool true)], args := [d] }
  | _ => none }
def tableChecksRow : OpenClaim := { program := "ytbjojfcpehkopaa", sum := "daa4509b91ffd23b35392ec403a01025727eec7ebd41789b2600c37d2d9ac6c2", func := "whipcord/whipcordlaw.TableChecks", spec := "tableChecks", unfollowed := true, recurses := true, apart := false }
def TableChecksSaid : Prop := tableChecksRow.holds Try.pinned (OpenSpec.ofChange tableChecksSpec)

/-- ITS FALSE NEIGHBOUR: 'it returns false'. Refute it at one input. -/
def tableChecksWrong : ChangeSpec := { name := "tableChecks", fn := fun _ => fun
  | [d] => { results := [.lit (.bool false)], args := [d] }
  | _ => none }
def TableChecksWrongFalsely : Prop := tableChecksRow.holds Try.pinned (OpenSpec.ofChange tableChecksWrong)

/-- 'whipcordlaw.TableLooks': WHATEVER THE INPUT: true; the input reads as it did. -/
def tableLooksSpec : ChangeSpec := { name := "tableLooks", fn := fun _ => fun
  | [d1, d2] => { results := [.lit (.bool true)], args := [d1, d2] }
  | _ => none }
def tableLooksRow : OpenClaim := { program := "ytbjojfcpehkopaa", sum := "daa4509b91ffd23b35392ec403a01025727eec7ebd41789b2600c37d2d9ac6c2", func := "whipcord/whipcordlaw.TableLooks", spec := "tableLooks", unfollowed := true, recurses := true, apart := false }
def TableLooksSaid : Prop := tableLooksRow.holds Try.pinned (OpenSpec.ofChange tableLooksSpec)

/-- ITS FALSE NEIGHBOUR: 'it returns false'. Refute it at one input. -/
def tableLooksWrong : ChangeSpec := { name := "tableLooks", fn := fun _ => fun
  | [d1, d2] => { results := [.lit (.bool false)], args := [d1, d2] }
  | _ => none }
def TableLooksWrongFalsely : Prop := tableLooksRow.holds Try.pinned (OpenSpec.ofChange tableLooksWrong)

/-- 'whipcordlaw.RuleFilters': WHATEVER THE INPUT: true; the input reads as it did. -/
def ruleFiltersSpec : ChangeSpec := { name := "ruleFilters", fn := fun _ => fun
  | [d1, d2] => { results := [.lit (.bool true)], args := [d1, d2] }
  | _ => none }
def ruleFiltersRow : OpenClaim := { program := "ytbjojfcpehkopaa", sum := "daa4509b91ffd23b35392ec403a01025727eec7ebd41789b2600c37d2d9ac6c2", func := "whipcord/whipcordlaw.RuleFilters", spec := "ruleFilters", unfollowed := true, recurses := true, apart := false }
def RuleFiltersSaid : Prop := ruleFiltersRow.holds Try.pinned (OpenSpec.ofChange ruleFiltersSpec)

/-- ITS FALSE NEIGHBOUR: 'it returns false'. Refute it at one input. -/
def ruleFiltersWrong : ChangeSpec := { name := "ruleFilters", fn := fun _ => fun
  | [d1, d2] => { results := [.lit (.bool false)], args := [d1, d2] }
  | _ => none }
def RuleFiltersWrongFalsely : Prop := ruleFiltersRow.holds Try.pinned (OpenSpec.ofChange ruleFiltersWrong)

/-- 'whipcordlaw.FewestSames': WHATEVER THE INPUT: true; the input reads as it did. -/
def fewestSamesSpec : ChangeSpec := { name := "fewestSames", fn := fun _ => fun
  | [d1, d2] => { results := [.lit (.bool true)], args := [d1, d2] }
  | _ => none }
def fewestSamesRow : OpenClaim := { program := "ytbjojfcpehkopaa", sum := "daa4509b91ffd23b35392ec403a01025727eec7ebd41789b2600c37d2d9ac6c2", func := "whipcord/whipcordlaw.FewestSames", spec := "fewestSames", inPlace := ["math/bits.Add64", "math/bits.Sub64"], unfollowed := true, recurses := true, apart := false }
def FewestSamesSaid : Prop := fewestSamesRow.holds Try.pinned (OpenSpec.ofChange fewestSamesSpec)

/-- ITS FALSE NEIGHBOUR: 'it returns false'. Refute it at one input. -/
def fewestSamesWrong : ChangeSpec := { name := "fewestSames", fn := fun _ => fun
  | [d1, d2] => { results := [.lit (.bool false)], args := [d1, d2] }
  | _ => none }
def FewestSamesWrongFalsely : Prop := fewestSamesRow.holds Try.pinned (OpenSpec.ofChange fewestSamesWrong)

/- THE SECOND FORM. 'bulk': how many values and letters a reading holds, each counted each time it is reached (what is shared counts as often as it is met; a slice's spare places count too). A statement '..UptoSaid' is the law's where the arguments, and the package variables that the reading takes, are together of bulk at most 1048576: NARROWER than '..Said'. Prove '..Said' where nothing that the law and all that it calls make is longer than what came in: it says more and counts as full. Else prove '..UptoSaid'. A law counts once. -/
mutual
def uptoBulk {H : Type} : DataW H → Nat
  | .lit (.string bytes) => bytes.length + 1
  | .lit _ => 1
  | .nil => 1
  | .ptr d => uptoBulk d + 1
  | .slice elems spare => uptoBulkAll elems + uptoBulkAll spare + 1
  | .agg parts => uptoBulkAll parts + 1
  | .iface _ d => uptoBulk d + 1
  | .map entries => uptoBulkEntries entries + 1
  | .held _ => 1
def uptoBulkAll {H : Type} : List (DataW H) → Nat
  | [] => 0
  | d :: r => uptoBulk d + uptoBulkAll r
def uptoBulkEntries {H : Type} : List (Lit × DataW H) → Nat
  | [] => 0
  | x :: r => uptoBulkEntry x + uptoBulkEntries r
def uptoBulkEntry {H : Type} : Lit × DataW H → Nat
  | (.string bytes, d) => bytes.length + uptoBulk d + 1
  | (_, d) => uptoBulk d + 1
 end
def uptoSmall : (H : Type) → List (DataW H) → Bool := fun _ ds => decide (uptoBulkAll ds ≤ 1048576)
def OpenSpec.upto (s : _root_.Go.ChangeSpec) : _root_.Go.OpenSpec := { _root_.Go.OpenSpec.ofChange s with cond := some uptoSmall }

/-- 'whipcordlaw.RuleChecks', WHERE WHAT IT READS IS OF BULK AT MOST 1048576: true; the input reads as it did. -/
def ruleChecksUptoRow : OpenClaim := { program := "ytbjojfcpehkopaa", sum := "daa4509b91ffd23b35392ec403a01025727eec7ebd41789b2600c37d2d9ac6c2", func := "whipcord/whipcordlaw.RuleChecks", spec := "ruleChecks", unfollowed := true, recurses := true, apart := false, narrowed := true }
def RuleChecksUptoSaid : Prop := ruleChecksUptoRow.holds Try.pinned (OpenSpec.upto ruleChecksSpec)

/-- 'whipcordlaw.ClassChecks', WHERE WHAT IT READS IS OF BULK AT MOST 1048576: true; the input reads as it did. -/
def classChecksUptoRow : OpenClaim := { program := "ytbjojfcpehkopaa", sum := "daa4509b91ffd23b35392ec403a01025727eec7ebd41789b2600c37d2d9ac6c2", func := "whipcord/whipcordlaw.ClassChecks", spec := "classChecks", unfollowed := true, recurses := true, apart := false, narrowed := true }
def ClassChecksUptoSaid : Prop := classChecksUptoRow.holds Try.pinned (OpenSpec.upto classChecksSpec)

/-- 'whipcordlaw.PreCovers', WHERE WHAT IT READS IS OF BULK AT MOST 1048576: true; the input reads as it did. -/
def preCoversUptoRow : OpenClaim := { program := "ytbjojfcpehkopaa", sum := "daa4509b91ffd23b35392ec403a01025727eec7ebd41789b2600c37d2d9ac6c2", func := "whipcord/whipcordlaw.PreCovers", spec := "preCovers", unfollowed := true, recurses := true, apart := false, narrowed := true }
def PreCoversUptoSaid : Prop := preCoversUptoRow.holds Try.pinned (OpenSpec.upto preCoversSpec)

/-- 'whipcordlaw.PreHalves', WHERE WHAT IT READS IS OF BULK AT MOST 1048576: true; the input reads as it did. -/
def preHalvesUptoRow : OpenClaim := { program := "ytbjojfcpehkopaa", sum := "daa4509b91ffd23b35392ec403a01025727eec7ebd41789b2600c37d2d9ac6c2", func := "whipcord/whipcordlaw.PreHalves", spec := "preHalves", unfollowed := true, recurses := true, apart := false, narrowed := true }
def PreHalvesUptoSaid : Prop := preHalvesUptoRow.holds Try.pinned (OpenSpec.upto preHalvesSpec)

/-- 'whipcordlaw.ViaPorts', WHERE WHAT IT READS IS OF BULK AT MOST 1048576: true; the input reads as it did. -/
def viaPortsUptoRow : OpenClaim := { program := "ytbjojfcpehkopaa", sum := "daa4509b91ffd23b35392ec403a01025727eec7ebd41789b2600c37d2d9ac6c2", func := "whipcord/whipcordlaw.ViaPorts", spec := "viaPorts", recurses := true, apart := false, narrowed := true }
def ViaPortsUptoSaid : Prop := viaPortsUptoRow.holds Try.pinned (OpenSpec.upto viaPortsSpec)

/-- 'whipcordlaw.RulePasses', WHERE WHAT IT READS IS OF BULK AT MOST 1048576: true; the input reads as it did. -/
def rulePassesUptoRow : OpenClaim := { program := "ytbjojfcpehkopaa", sum := "daa4509b91ffd23b35392ec403a01025727eec7ebd41789b2600c37d2d9ac6c2", func := "whipcord/whipcordlaw.RulePasses", spec := "rulePasses", unfollowed := true, recurses := true, apart := false, narrowed := true }
def RulePassesUptoSaid : Prop := rulePassesUptoRow.holds Try.pinned (OpenSpec.upto rulePassesSpec)

/-- 'whipcordlaw.PreCommons', WHERE WHAT IT READS IS OF BULK AT MOST 1048576: true; the input reads as it did. -/
def preCommonsUptoRow : OpenClaim := { program := "ytbjojfcpehkopaa", sum := "daa4509b91ffd23b35392ec403a01025727eec7ebd41789b2600c37d2d9ac6c2", func := "whipcord/whipcordlaw.PreCommons", spec := "preCommons", unfollowed := true, recurses := true, apart := false, narrowed := true }
def PreCommonsUptoSaid : Prop := preCommonsUptoRow.holds Try.pinned (OpenSpec.upto preCommonsSpec)

/-- 'whipcordlaw.RuleIdles', WHERE WHAT IT READS IS OF BULK AT MOST 1048576: true; the input reads as it did. -/
def ruleIdlesUptoRow : OpenClaim := { program := "ytbjojfcpehkopaa", sum := "daa4509b91ffd23b35392ec403a01025727eec7ebd41789b2600c37d2d9ac6c2", func := "whipcord/whipcordlaw.RuleIdles", spec := "ruleIdles", unfollowed := true, recurses := true, apart := false, narrowed := true }
def RuleIdlesUptoSaid : Prop := ruleIdlesUptoRow.holds Try.pinned (OpenSpec.upto ruleIdlesSpec)

/-- 'whipcordlaw.QueuePlays', WHERE WHAT IT READS IS OF BULK AT MOST 1048576: true; the input reads as it did. -/
def queuePlaysUptoRow : OpenClaim := { program := "ytbjojfcpehkopaa", sum := "daa4509b91ffd23b35392ec403a01025727eec7ebd41789b2600c37d2d9ac6c2", func := "whipcord/whipcordlaw.QueuePlays", spec := "queuePlays", unfollowed := true, recurses := true, apart := false, narrowed := true }
def QueuePlaysUptoSaid : Prop := queuePlaysUptoRow.holds Try.pinned (OpenSpec.upto queuePlaysSpec)

/-- 'whipcordlaw.CidrRanges', WHERE WHAT IT READS IS OF BULK AT MOST 1048576: true; the input reads as it did. -/
def cidrRangesUptoRow : OpenClaim := { program := "ytbjojfcpehkopaa", sum := "daa4509b91ffd23b35392ec403a01025727eec7ebd41789b2600c37d2d9ac6c2", func := "whipcord/whipcordlaw.CidrRanges", spec := "cidrRanges", inPlace := ["math/bits.Add64", "math/bits.Sub64"], unfollowed := true, recurses := true, apart := false, narrowed := true }
def CidrRangesUptoSaid : Prop := cidrRangesUptoRow.holds Try.pinned (OpenSpec.upto cidrRangesSpec)

/-- 'whipcordlaw.ClassHiddens', WHERE WHAT IT READS IS OF BULK AT MOST 1048576: true; the input reads as it did. -/
def classHiddensUptoRow : OpenClaim := { program := "ytbjojfcpehkopaa", sum := "daa4509b91ffd23b35392ec403a01025727eec7ebd41789b2600c37d2d9ac6c2", func := "whipcord/whipcordlaw.ClassHiddens", spec := "classHiddens", unfollowed := true, recurses := true, apart := false, narrowed := true }
def ClassHiddensUptoSaid : Prop := classHiddensUptoRow.holds Try.pinned (OpenSpec.upto classHiddensSpec)

/-- 'whipcordlaw.ClassFinds', WHERE WHAT IT READS IS OF BULK AT MOST 1048576: true; the input reads as it did. -/
def classFindsUptoRow : OpenClaim := { program := "ytbjojfcpehkopaa", sum := "daa4509b91ffd23b35392ec403a01025727eec7ebd41789b2600c37d2d9ac6c2", func := "whipcord/whipcordlaw.ClassFinds", spec := "classFinds", unfollowed := true, recurses := true, apart := false, narrowed := true }
def ClassFindsUptoSaid : Prop := classFindsUptoRow.holds Try.pinned (OpenSpec.upto classFindsSpec)

/-- 'whipcordlaw.TableChecks', WHERE WHAT IT READS IS OF BULK AT MOST 1048576: true; the input reads as it did. -/
def tableChecksUptoRow : OpenClaim := { program := "ytbjojfcpehkopaa", sum := "daa4509b91ffd23b35392ec403a01025727eec7ebd41789b2600c37d2d9ac6c2", func := "whipcord/whipcordlaw.TableChecks", spec := "tableChecks", unfollowed := true, recurses := true, apart := false, narrowed := true }
def TableChecksUptoSaid : Prop := tableChecksUptoRow.holds Try.pinned (OpenSpec.upto tableChecksSpec)

/-- 'whipcordlaw.TableLooks', WHERE WHAT IT READS IS OF BULK AT MOST 1048576: true; the input reads as it did. -/
def tableLooksUptoRow : OpenClaim := { program := "ytbjojfcpehkopaa", sum := "daa4509b91ffd23b35392ec403a01025727eec7ebd41789b2600c37d2d9ac6c2", func := "whipcord/whipcordlaw.TableLooks", spec := "tableLooks", unfollowed := true, recurses := true, apart := false, narrowed := true }
def TableLooksUptoSaid : Prop := tableLooksUptoRow.holds Try.pinned (OpenSpec.upto tableLooksSpec)

/-- 'whipcordlaw.RuleFilters', WHERE WHAT IT READS IS OF BULK AT MOST 1048576: true; the input reads as it did. -/
def ruleFiltersUptoRow : OpenClaim := { program := "ytbjojfcpehkopaa", sum := "daa4509b91ffd23b35392ec403a01025727eec7ebd41789b2600c37d2d9ac6c2", func := "whipcord/whipcordlaw.RuleFilters", spec := "ruleFilters", unfollowed := true, recurses := true, apart := false, narrowed := true }
def RuleFiltersUptoSaid : Prop := ruleFiltersUptoRow.holds Try.pinned (OpenSpec.upto ruleFiltersSpec)

/-- 'whipcordlaw.FewestSames', WHERE WHAT IT READS IS OF BULK AT MOST 1048576: true; the input reads as it did. -/
def fewestSamesUptoRow : OpenClaim := { program := "ytbjojfcpehkopaa", sum := "daa4509b91ffd23b35392ec403a01025727eec7ebd41789b2600c37d2d9ac6c2", func := "whipcord/whipcordlaw.FewestSames", spec := "fewestSames", inPlace := ["math/bits.Add64", "math/bits.Sub64"], unfollowed := true, recurses := true, apart := false, narrowed := true }
def FewestSamesUptoSaid : Prop := fewestSamesUptoRow.holds Try.pinned (OpenSpec.upto fewestSamesSpec)

end Rows
end Go.Proofs.Ytbjojfcpehkopaa
