/-
  DERIVED. GIVEN WITH THE SEED: THE CARDS: each row of YtgnmfbgoacfjeaaDoorRows.lean that lists a variable, with what it lists TIED to the program's text (the seventh form; the later family's looks); each row that meets fmt, with fmt's text TOLD by the authors' own Lean function (tested against real Go, not proved from fmt's source: count such statements apart). THE CARD IS WHAT COUNTS. Prove the row's statement (the work); the ties are given (YtgnmfbgoacfjeaaDoorTie.lean); close each card by the builder's one call (the guide's Derived/Test/ToyasCard.lean, 'card_holds'). Laid BY PROGRAM, IN A SANDBOX (cutbox-door.mjs). By AI agents, Wed Nov 11 2026. No macro, syntax, notation, axiom, sorry.
-/
import Derived.Test.YtgnmfbgoacfjeaaDoorRows
import GoSem.ClaimSeven
namespace Go.Proofs.YtgnmfbgoacfjeaaDoor
namespace Rows

/-- THE TIED CARD OF 'laws.FnExactPeopleText'. -/
def fnExactPeopleTextCard : Claim7 := { stood := { row := fnExactPeopleTextRow, standIns := [], harness := (true, "4f8378f198a680e115ce43c77f08b9967f7f28195807323f70da8be0d6e617b2"), looks := false }, kinds := [], alts := [], laidByText := true, laidKinds := [.data, .data, .data], laidTests := true, laidLooks := .later }
def FnExactPeopleTextCardSaid : Prop := Claim7.holds Tryd.pinned (.plain (OpenSpec.ofChange fnExactPeopleTextSpec)) fnExactPeopleTextCard

/-- THE TIED CARD OF 'laws.FnPeopleTextLines'. -/
def fnPeopleTextLinesCard : Claim7 := { stood := { row := fnPeopleTextLinesRow, standIns := [], harness := (true, "4f8378f198a680e115ce43c77f08b9967f7f28195807323f70da8be0d6e617b2"), looks := false }, kinds := [], alts := [], laidByText := true, laidKinds := [.data, .data, .data], laidTests := true, laidLooks := .later }
def FnPeopleTextLinesCardSaid : Prop := Claim7.holds Tryd.pinned (.plain (OpenSpec.ofChange fnPeopleTextLinesSpec)) fnPeopleTextLinesCard

/-- THE TIED CARD OF 'laws.FnTableTextRows'. -/
def fnTableTextRowsCard : Claim7 := { stood := { row := fnTableTextRowsRow, standIns := [], harness := (true, "4f8378f198a680e115ce43c77f08b9967f7f28195807323f70da8be0d6e617b2"), looks := false }, kinds := [], alts := [], laidByText := true, laidKinds := [.data, .data, .data], laidTests := true, laidLooks := .later }
def FnTableTextRowsCardSaid : Prop := Claim7.holds Tryd.pinned (.plain (OpenSpec.ofChange fnTableTextRowsSpec)) fnTableTextRowsCard

/-- THE TIED CARD OF 'laws.FnExactTableText'. -/
def fnExactTableTextCard : Claim7 := { stood := { row := fnExactTableTextRow, standIns := [], harness := (true, "4f8378f198a680e115ce43c77f08b9967f7f28195807323f70da8be0d6e617b2"), looks := false }, kinds := [], alts := [], laidByText := true, laidKinds := [.data, .data, .data], laidTests := true, laidLooks := .later }
def FnExactTableTextCardSaid : Prop := Claim7.holds Tryd.pinned (.plain (OpenSpec.ofChange fnExactTableTextSpec)) fnExactTableTextCard

/-- THE TIED CARD OF 'laws.FnTableTextTurn'. -/
def fnTableTextTurnCard : Claim7 := { stood := { row := fnTableTextTurnRow, standIns := [], harness := (true, "4f8378f198a680e115ce43c77f08b9967f7f28195807323f70da8be0d6e617b2"), looks := false }, kinds := [], alts := [], laidByText := true, laidKinds := [.data, .data, .data], laidTests := true, laidLooks := .later }
def FnTableTextTurnCardSaid : Prop := Claim7.holds Tryd.pinned (.plain (OpenSpec.ofChange fnTableTextTurnSpec)) fnTableTextTurnCard

/-- THE TIED CARD OF 'laws.FnMaskTextRows'. -/
def fnMaskTextRowsCard : Claim7 := { stood := { row := fnMaskTextRowsRow, standIns := [], harness := (true, "4f8378f198a680e115ce43c77f08b9967f7f28195807323f70da8be0d6e617b2"), looks := false }, kinds := [], alts := [], laidByText := true, laidKinds := [.data, .data, .data], laidTests := true, laidLooks := .later }
def FnMaskTextRowsCardSaid : Prop := Claim7.holds Tryd.pinned (.plain (OpenSpec.ofChange fnMaskTextRowsSpec)) fnMaskTextRowsCard

/-- THE TIED CARD OF 'laws.FnMaskText'. -/
def fnMaskTextCard : Claim7 := { stood := { row := fnMaskTextRow, standIns := [], harness := (true, "4f8378f198a680e115ce43c77f08b9967f7f28195807323f70da8be0d6e617b2"), looks := false }, kinds := [], alts := [], laidByText := true, laidKinds := [.data, .data, .data], laidTests := true, laidLooks := .later }
def FnMaskTextCardSaid : Prop := Claim7.holds Tryd.pinned (.plain (OpenSpec.ofChange fnMaskTextSpec)) fnMaskTextCard

/-- THE TIED CARD OF 'laws.FnExactMaskText'. -/
def fnExactMaskTextCard : Claim7 := { stood := { row := fnExactMaskTextRow, standIns := [], harness := (true, "4f8378f198a680e115ce43c77f08b9967f7f28195807323f70da8be0d6e617b2"), looks := false }, kinds := [], alts := [], laidByText := true, laidKinds := [.data, .data, .data], laidTests := true, laidLooks := .later }
def FnExactMaskTextCardSaid : Prop := Claim7.holds Tryd.pinned (.plain (OpenSpec.ofChange fnExactMaskTextSpec)) fnExactMaskTextCard

/-- THE SECOND FORM's CARD OF 'laws.FnExactPeopleText'. -/
def fnExactPeopleTextUptoCard : Claim7 := { stood := { row := fnExactPeopleTextUptoRow, standIns := [], harness := (true, "4f8378f198a680e115ce43c77f08b9967f7f28195807323f70da8be0d6e617b2"), looks := false }, kinds := [], alts := [], laidByText := true, laidKinds := [.data, .data, .data], laidTests := true, laidLooks := .later }
def FnExactPeopleTextUptoCardSaid : Prop := Claim7.holds Tryd.pinned (.plain (OpenSpec.upto fnExactPeopleTextSpec)) fnExactPeopleTextUptoCard

/-- THE SECOND FORM's CARD OF 'laws.FnPeopleTextLines'. -/
def fnPeopleTextLinesUptoCard : Claim7 := { stood := { row := fnPeopleTextLinesUptoRow, standIns := [], harness := (true, "4f8378f198a680e115ce43c77f08b9967f7f28195807323f70da8be0d6e617b2"), looks := false }, kinds := [], alts := [], laidByText := true, laidKinds := [.data, .data, .data], laidTests := true, laidLooks := .later }
def FnPeopleTextLinesUptoCardSaid : Prop := Claim7.holds Tryd.pinned (.plain (OpenSpec.upto fnPeopleTextLinesSpec)) fnPeopleTextLinesUptoCard

/-- THE SECOND FORM's CARD OF 'laws.FnTableTextRows'. -/
def fnTableTextRowsUptoCard : Claim7 := { stood := { row := fnTableTextRowsUptoRow, standIns := [], harness := (true, "4f8378f198a680e115ce43c77f08b9967f7f28195807323f70da8be0d6e617b2"), looks := false }, kinds := [], alts := [], laidByText := true, laidKinds := [.data, .data, .data], laidTests := true, laidLooks := .later }
def FnTableTextRowsUptoCardSaid : Prop := Claim7.holds Tryd.pinned (.plain (OpenSpec.upto fnTableTextRowsSpec)) fnTableTextRowsUptoCard

/-- THE SECOND FORM's CARD OF 'laws.FnExactTableText'. -/
def fnExactTableTextUptoCard : Claim7 := { stood := { row := fnExactTableTextUptoRow, standIns := [], harness := (true, "4f8378f198a680e115ce43c77f08b9967f7f28195807323f70da8be0d6e617b2"), looks := false }, kinds := [], alts := [], laidByText := true, laidKinds := [.data, .data, .data], laidTests := true, laidLooks := .later }
def FnExactTableTextUptoCardSaid : Prop := Claim7.holds Tryd.pinned (.plain (OpenSpec.upto fnExactTableTextSpec)) fnExactTableTextUptoCard

/-- THE SECOND FORM's CARD OF 'laws.FnTableTextTurn'. -/
def fnTableTextTurnUptoCard : Claim7 := { stood := { row := fnTableTextTurnUptoRow, standIns := [], harness := (true, "4f8378f198a680e115ce43c77f08b9967f7f28195807323f70da8be0d6e617b2"), looks := false }, kinds := [], alts := [], laidByText := true, laidKinds := [.data, .data, .data], laidTests := true, laidLooks := .later }
def FnTableTextTurnUptoCardSaid : Prop := Claim7.holds Tryd.pinned (.plain (OpenSpec.upto fnTableTextTurnSpec)) fnTableTextTurnUptoCard

/-- THE SECOND FORM's CARD OF 'laws.FnMaskTextRows'. -/
def fnMaskTextRowsUptoCard : Claim7 := { stood := { row := fnMaskTextRowsUptoRow, standIns := [], harness := (true, "4f8378f198a680e115ce43c77f08b9967f7f28195807323f70da8be0d6e617b2"), looks := false }, kinds := [], alts := [], laidByText := true, laidKinds := [.data, .data, .data], laidTests := true, laidLooks := .later }
def FnMaskTextRowsUptoCardSaid : Prop := Claim7.holds Tryd.pinned (.plain (OpenSpec.upto fnMaskTextRowsSpec)) fnMaskTextRowsUptoCard

/-- THE SECOND FORM's CARD OF 'laws.FnMaskText'. -/
def fnMaskTextUptoCard : Claim7 := { stood := { row := fnMaskTextUptoRow, standIns := [], harness := (true, "4f8378f198a680e115ce43c77f08b9967f7f28195807323f70da8be0d6e617b2"), looks := false }, kinds := [], alts := [], laidByText := true, laidKinds := [.data, .data, .data], laidTests := true, laidLooks := .later }
def FnMaskTextUptoCardSaid : Prop := Claim7.holds Tryd.pinned (.plain (OpenSpec.upto fnMaskTextSpec)) fnMaskTextUptoCard

/-- THE SECOND FORM's CARD OF 'laws.FnExactMaskText'. -/
def fnExactMaskTextUptoCard : Claim7 := { stood := { row := fnExactMaskTextUptoRow, standIns := [], harness := (true, "4f8378f198a680e115ce43c77f08b9967f7f28195807323f70da8be0d6e617b2"), looks := false }, kinds := [], alts := [], laidByText := true, laidKinds := [.data, .data, .data], laidTests := true, laidLooks := .later }
def FnExactMaskTextUptoCardSaid : Prop := Claim7.holds Tryd.pinned (.plain (OpenSpec.upto fnExactMaskTextSpec)) fnExactMaskTextUptoCard
end Rows
end Go.Proofs.YtgnmfbgoacfjeaaDoor
