
/-
  Proved here: the contract of pre.Halves.
-/
import Derived.Test.YtonelibgaceflaaAuto
import Derived.Test.YtonelibgaceflaaHalf
import Derived.Deep.RegionWith
namespace Go.Proofs.Ytonelibgaceflaa
open Go.ChangeShapes Go.WideShapes Go.ChangeAt Go.RowKit

def ZP : Value := .agg #[.bool false, .int .u64 0, .int .u64 0, .int .i64 0]

end Go.Proofs.Ytonelibgaceflaa
