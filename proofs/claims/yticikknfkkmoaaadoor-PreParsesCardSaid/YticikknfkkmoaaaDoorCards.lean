/-
  DERIVED. GIVEN WITH THE SEED: THE CARDS: each row of YticikknfkkmoaaaDoorRows.lean that lists a variable, with what it lists TIED to the program's text (the seventh form; the later family's looks); each row that meets fmt, with fmt's text TOLD by the authors' own Lean function (tested against real Go, not proved from fmt's source: count such statements apart). THE CARD IS WHAT COUNTS. Prove the row's statement (the work); the ties are given (YticikknfkkmoaaaDoorTie.lean); close each card by the builder's one call (the guide's Derived/Test/ToyasCard.lean, 'card_holds'). Laid BY PROGRAM, IN A SANDBOX (cutbox-door.mjs). By AI agents, Wed Nov 11 2026. No macro, syntax, notation, axiom, sorry.
-/
import Derived.Test.YticikknfkkmoaaaDoorRows
import GoSem.ClaimSeven
namespace Go.Proofs.YticikknfkkmoaaaDoor
namespace Rows

/-- THE TIED CARD OF 'whipcordlaw.AddrParses'. -/
def addrParsesCard : Claim7 := { stood := { row := addrParsesRow, standIns := [], harness := (true, "414456e084806173f8b6091daef3b1f399fe80a358e2fb9954da0b57990a886f"), looks := true }, kinds := [], alts := [], laidByText := true, laidKinds := [.data, .data, .data, .data, .sentinel, .sentinel, .pinned], laidTests := true, laidLooks := .later }
def AddrParsesCardSaid : Prop := Claim7.holds Tryd.pinned (.plain (OpenSpec.ofChange addrParsesSpec)) addrParsesCard

/-- THE TIED CARD OF 'whipcordlaw.PreParses'. -/
def preParsesCard : Claim7 := { stood := { row := preParsesRow, standIns := [], harness := (true, "414456e084806173f8b6091daef3b1f399fe80a358e2fb9954da0b57990a886f"), looks := true }, kinds := [], alts := [], laidByText := true, laidKinds := [.data, .data, .data, .data, .sentinel, .sentinel, .pinned], laidTests := true, laidLooks := .later }
def PreParsesCardSaid : Prop := Claim7.holds Tryd.pinned (.plain (OpenSpec.ofChange preParsesSpec)) preParsesCard

/-- THE SECOND FORM's CARD OF 'whipcordlaw.AddrParses'. -/
def addrParsesUptoCard : Claim7 := { stood := { row := addrParsesUptoRow, standIns := [], harness := (true, "414456e084806173f8b6091daef3b1f399fe80a358e2fb9954da0b57990a886f"), looks := true }, kinds := [], alts := [], laidByText := true, laidKinds := [.data, .data, .data, .data, .sentinel, .sentinel, .pinned], laidTests := true, laidLooks := .later }
def AddrParsesUptoCardSaid : Prop := Claim7.holds Tryd.pinned (.plain (OpenSpec.upto addrParsesSpec)) addrParsesUptoCard

/-- THE SECOND FORM's CARD OF 'whipcordlaw.PreParses'. -/
def preParsesUptoCard : Claim7 := { stood := { row := preParsesUptoRow, standIns := [], harness := (true, "414456e084806173f8b6091daef3b1f399fe80a358e2fb9954da0b57990a886f"), looks := true }, kinds := [], alts := [], laidByText := true, laidKinds := [.data, .data, .data, .data, .sentinel, .sentinel, .pinned], laidTests := true, laidLooks := .later }
def PreParsesUptoCardSaid : Prop := Claim7.holds Tryd.pinned (.plain (OpenSpec.upto preParsesSpec)) preParsesUptoCard
end Rows
end Go.Proofs.YticikknfkkmoaaaDoor
