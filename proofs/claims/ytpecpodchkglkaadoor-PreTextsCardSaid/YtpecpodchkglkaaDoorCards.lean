/-
  DERIVED. GIVEN WITH THE SEED: THE CARDS: each row of YtpecpodchkglkaaDoorRows.lean that lists a variable, with what it lists TIED to the program's text (the seventh form; the later family's looks); each row that meets fmt, with fmt's text TOLD by the authors' own Lean function (tested against real Go, not proved from fmt's source: count such statements apart). THE CARD IS WHAT COUNTS. Prove the row's statement (the work); the ties are given (YtpecpodchkglkaaDoorTie.lean); close each card by the builder's one call (the guide's Derived/Test/ToyasCard.lean, 'card_holds'). Laid BY PROGRAM, IN A SANDBOX (cutbox-door.mjs). By AI agents, Wed Nov 11 2026. No macro, syntax, notation, axiom, sorry.
-/
import Derived.Test.YtpecpodchkglkaaDoorRows
import GoSem.ClaimSeven
namespace Go.Proofs.YtpecpodchkglkaaDoor
namespace Rows

/-- THE TIED CARD OF 'whipcordtop.TopStrides'. -/
def topStridesCard : Claim7 := { stood := { row := topStridesRow, standIns := [], harness := (true, "b5e4f51cbf61b63f9fae5b682787046f56703eaca6e7758a2b11d3be5ff57952"), looks := true }, kinds := [], alts := [], laidByText := true, laidKinds := [.data], laidTests := true, laidLooks := .later }
def TopStridesCardSaid : Prop := Claim7.holds Tryd.pinned (.plain (OpenSpec.ofChange topStridesSpec)) topStridesCard

/-- THE TIED CARD OF 'whipcordlaw.AddrTexts'. -/
def addrTextsCard : Claim7 := { stood := { row := addrTextsRow, standIns := [], harness := (true, "b5e4f51cbf61b63f9fae5b682787046f56703eaca6e7758a2b11d3be5ff57952"), looks := true }, kinds := [], alts := [], laidByText := true, laidKinds := [.data, .data, .data], laidTests := true, laidLooks := .later }
def AddrTextsCardSaid : Prop := Claim7.holds Tryd.pinned (.plain (OpenSpec.ofChange addrTextsSpec)) addrTextsCard

/-- THE TIED CARD OF 'whipcordlaw.StrideMays'. -/
def strideMaysCard : Claim7 := { stood := { row := strideMaysRow, standIns := [], harness := (true, "b5e4f51cbf61b63f9fae5b682787046f56703eaca6e7758a2b11d3be5ff57952"), looks := true }, kinds := [], alts := [], laidByText := true, laidKinds := [.data], laidTests := true, laidLooks := .later }
def StrideMaysCardSaid : Prop := Claim7.holds Tryd.pinned (.plain (OpenSpec.ofChange strideMaysSpec)) strideMaysCard

/-- THE TIED CARD OF 'whipcordlaw.PreTexts'. -/
def preTextsCard : Claim7 := { stood := { row := preTextsRow, standIns := [], harness := (true, "b5e4f51cbf61b63f9fae5b682787046f56703eaca6e7758a2b11d3be5ff57952"), looks := true }, kinds := [], alts := [], laidByText := true, laidKinds := [.data, .data, .data], laidTests := true, laidLooks := .later }
def PreTextsCardSaid : Prop := Claim7.holds Tryd.pinned (.plain (OpenSpec.ofChange preTextsSpec)) preTextsCard

/-- THE TIED CARD OF 'whipcordlaw.StrideLooks'. -/
def strideLooksCard : Claim7 := { stood := { row := strideLooksRow, standIns := [], harness := (true, "b5e4f51cbf61b63f9fae5b682787046f56703eaca6e7758a2b11d3be5ff57952"), looks := true }, kinds := [], alts := [], laidByText := true, laidKinds := [.data], laidTests := true, laidLooks := .later }
def StrideLooksCardSaid : Prop := Claim7.holds Tryd.pinned (.plain (OpenSpec.ofChange strideLooksSpec)) strideLooksCard

/-- THE TIED CARD OF 'whipcordlaw.AddrParses'. -/
def addrParsesCard : Claim7 := { stood := { row := addrParsesRow, standIns := [], harness := (true, "b5e4f51cbf61b63f9fae5b682787046f56703eaca6e7758a2b11d3be5ff57952"), looks := true }, kinds := [], alts := [], laidByText := true, laidKinds := [.data, .data, .data, .data, .sentinel, .sentinel, .pinned], laidTests := true, laidLooks := .later }
def AddrParsesCardSaid : Prop := Claim7.holds Tryd.pinned (.plain (OpenSpec.ofChange addrParsesSpec)) addrParsesCard

/-- THE TIED CARD OF 'whipcordlaw.PreParses'. -/
def preParsesCard : Claim7 := { stood := { row := preParsesRow, standIns := [], harness := (true, "b5e4f51cbf61b63f9fae5b682787046f56703eaca6e7758a2b11d3be5ff57952"), looks := true }, kinds := [], alts := [], laidByText := true, laidKinds := [.data, .data, .data, .data, .sentinel, .sentinel, .pinned], laidTests := true, laidLooks := .later }
def PreParsesCardSaid : Prop := Claim7.holds Tryd.pinned (.plain (OpenSpec.ofChange preParsesSpec)) preParsesCard

/-- THE SECOND FORM's CARD OF 'whipcordtop.TopStrides'. -/
def topStridesUptoCard : Claim7 := { stood := { row := topStridesUptoRow, standIns := [], harness := (true, "b5e4f51cbf61b63f9fae5b682787046f56703eaca6e7758a2b11d3be5ff57952"), looks := true }, kinds := [], alts := [], laidByText := true, laidKinds := [.data], laidTests := true, laidLooks := .later }
def TopStridesUptoCardSaid : Prop := Claim7.holds Tryd.pinned (.plain (OpenSpec.upto topStridesSpec)) topStridesUptoCard

/-- THE SECOND FORM's CARD OF 'whipcordlaw.AddrTexts'. -/
def addrTextsUptoCard : Claim7 := { stood := { row := addrTextsUptoRow, standIns := [], harness := (true, "b5e4f51cbf61b63f9fae5b682787046f56703eaca6e7758a2b11d3be5ff57952"), looks := true }, kinds := [], alts := [], laidByText := true, laidKinds := [.data, .data, .data], laidTests := true, laidLooks := .later }
def AddrTextsUptoCardSaid : Prop := Claim7.holds Tryd.pinned (.plain (OpenSpec.upto addrTextsSpec)) addrTextsUptoCard

/-- THE SECOND FORM's CARD OF 'whipcordlaw.StrideMays'. -/
def strideMaysUptoCard : Claim7 := { stood := { row := strideMaysUptoRow, standIns := [], harness := (true, "b5e4f51cbf61b63f9fae5b682787046f56703eaca6e7758a2b11d3be5ff57952"), looks := true }, kinds := [], alts := [], laidByText := true, laidKinds := [.data], laidTests := true, laidLooks := .later }
def StrideMaysUptoCardSaid : Prop := Claim7.holds Tryd.pinned (.plain (OpenSpec.upto strideMaysSpec)) strideMaysUptoCard

/-- THE SECOND FORM's CARD OF 'whipcordlaw.PreTexts'. -/
def preTextsUptoCard : Claim7 := { stood := { row := preTextsUptoRow, standIns := [], harness := (true, "b5e4f51cbf61b63f9fae5b682787046f56703eaca6e7758a2b11d3be5ff57952"), looks := true }, kinds := [], alts := [], laidByText := true, laidKinds := [.data, .data, .data], laidTests := true, laidLooks := .later }
def PreTextsUptoCardSaid : Prop := Claim7.holds Tryd.pinned (.plain (OpenSpec.upto preTextsSpec)) preTextsUptoCard

/-- THE SECOND FORM's CARD OF 'whipcordlaw.StrideLooks'. -/
def strideLooksUptoCard : Claim7 := { stood := { row := strideLooksUptoRow, standIns := [], harness := (true, "b5e4f51cbf61b63f9fae5b682787046f56703eaca6e7758a2b11d3be5ff57952"), looks := true }, kinds := [], alts := [], laidByText := true, laidKinds := [.data], laidTests := true, laidLooks := .later }
def StrideLooksUptoCardSaid : Prop := Claim7.holds Tryd.pinned (.plain (OpenSpec.upto strideLooksSpec)) strideLooksUptoCard

/-- THE SECOND FORM's CARD OF 'whipcordlaw.AddrParses'. -/
def addrParsesUptoCard : Claim7 := { stood := { row := addrParsesUptoRow, standIns := [], harness := (true, "b5e4f51cbf61b63f9fae5b682787046f56703eaca6e7758a2b11d3be5ff57952"), looks := true }, kinds := [], alts := [], laidByText := true, laidKinds := [.data, .data, .data, .data, .sentinel, .sentinel, .pinned], laidTests := true, laidLooks := .later }
def AddrParsesUptoCardSaid : Prop := Claim7.holds Tryd.pinned (.plain (OpenSpec.upto addrParsesSpec)) addrParsesUptoCard

/-- THE SECOND FORM's CARD OF 'whipcordlaw.PreParses'. -/
def preParsesUptoCard : Claim7 := { stood := { row := preParsesUptoRow, standIns := [], harness := (true, "b5e4f51cbf61b63f9fae5b682787046f56703eaca6e7758a2b11d3be5ff57952"), looks := true }, kinds := [], alts := [], laidByText := true, laidKinds := [.data, .data, .data, .data, .sentinel, .sentinel, .pinned], laidTests := true, laidLooks := .later }
def PreParsesUptoCardSaid : Prop := Claim7.holds Tryd.pinned (.plain (OpenSpec.upto preParsesSpec)) preParsesUptoCard
end Rows
end Go.Proofs.YtpecpodchkglkaaDoor
