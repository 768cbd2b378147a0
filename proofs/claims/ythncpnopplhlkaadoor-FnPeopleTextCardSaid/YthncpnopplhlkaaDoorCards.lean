/-
  DERIVED. GIVEN WITH THE SEED: THE CARDS: each row of YthncpnopplhlkaaDoorRows.lean that lists a variable, with what it lists TIED to the program's text (the seventh form; the later family's looks); each row that meets fmt, with fmt's text TOLD by the authors' own Lean function (tested against real Go, not proved from fmt's source: count such statements apart). THE CARD IS WHAT COUNTS. Prove the row's statement (the work); the ties are given (YthncpnopplhlkaaDoorTie.lean); close each card by the builder's one call (the guide's Derived/Test/ToyasCard.lean, 'card_holds'). Laid BY PROGRAM, IN A SANDBOX (cutbox-door.mjs). By AI agents, Wed Nov 11 2026. No macro, syntax, notation, axiom, sorry.
-/
import Derived.Test.YthncpnopplhlkaaDoorRows
import GoSem.ClaimSeven
namespace Go.Proofs.YthncpnopplhlkaaDoor
namespace Rows

/-- THE TIED CARD OF 'laws.FnPeopleText'. -/
def fnPeopleTextCard : Claim7 := { stood := { row := fnPeopleTextRow, standIns := [], harness := (true, "1f4b99fcc09d2dce142a38e13cc2e865530923b2ee6dd40b1e83248509b9c4d0"), looks := true }, kinds := [], alts := [], laidByText := true, laidKinds := [.data, .data, .data, .data, .sentinel, .sentinel, .pinned], laidTests := true, laidLooks := .later }
def FnPeopleTextCardSaid : Prop := Claim7.holds Tryd.pinned (.plain (OpenSpec.ofChange fnPeopleTextSpec)) fnPeopleTextCard

/-- THE TIED CARD OF 'laws.FnTableText'. -/
def fnTableTextCard : Claim7 := { stood := { row := fnTableTextRow, standIns := [], harness := (true, "1f4b99fcc09d2dce142a38e13cc2e865530923b2ee6dd40b1e83248509b9c4d0"), looks := true }, kinds := [], alts := [], laidByText := true, laidKinds := [.data, .data, .data, .data, .sentinel, .sentinel, .pinned], laidTests := true, laidLooks := .later }
def FnTableTextCardSaid : Prop := Claim7.holds Tryd.pinned (.plain (OpenSpec.ofChange fnTableTextSpec)) fnTableTextCard

/-- THE TIED CARD OF 'laws.FnExactTableFrom'. -/
def fnExactTableFromCard : Claim7 := { stood := { row := fnExactTableFromRow, standIns := [], harness := (true, "1f4b99fcc09d2dce142a38e13cc2e865530923b2ee6dd40b1e83248509b9c4d0"), looks := true }, kinds := [], alts := [], laidByText := true, laidKinds := [.data, .data, .data, .data, .sentinel, .sentinel, .pinned], laidTests := true, laidLooks := .later }
def FnExactTableFromCardSaid : Prop := Claim7.holds Tryd.pinned (.plain (OpenSpec.ofChange fnExactTableFromSpec)) fnExactTableFromCard

/-- THE TIED CARD OF 'laws.FnExactPeopleFrom'. -/
def fnExactPeopleFromCard : Claim7 := { stood := { row := fnExactPeopleFromRow, standIns := [], harness := (true, "1f4b99fcc09d2dce142a38e13cc2e865530923b2ee6dd40b1e83248509b9c4d0"), looks := true }, kinds := [], alts := [], laidByText := true, laidKinds := [.data, .data, .data, .data, .sentinel, .sentinel, .pinned], laidTests := true, laidLooks := .later }
def FnExactPeopleFromCardSaid : Prop := Claim7.holds Tryd.pinned (.plain (OpenSpec.ofChange fnExactPeopleFromSpec)) fnExactPeopleFromCard

/-- THE TIED CARD OF 'laws.FnPeopleFrom'. -/
def fnPeopleFromCard : Claim7 := { stood := { row := fnPeopleFromRow, standIns := [], harness := (true, "1f4b99fcc09d2dce142a38e13cc2e865530923b2ee6dd40b1e83248509b9c4d0"), looks := true }, kinds := [], alts := [], laidByText := true, laidKinds := [.data, .data, .data, .data, .sentinel, .sentinel, .pinned], laidTests := true, laidLooks := .later }
def FnPeopleFromCardSaid : Prop := Claim7.holds Tryd.pinned (.plain (OpenSpec.ofChange fnPeopleFromSpec)) fnPeopleFromCard

/-- THE TIED CARD OF 'laws.FnTableFrom'. -/
def fnTableFromCard : Claim7 := { stood := { row := fnTableFromRow, standIns := [], harness := (true, "1f4b99fcc09d2dce142a38e13cc2e865530923b2ee6dd40b1e83248509b9c4d0"), looks := true }, kinds := [], alts := [], laidByText := true, laidKinds := [.data, .data, .data, .data, .sentinel, .sentinel, .pinned], laidTests := true, laidLooks := .later }
def FnTableFromCardSaid : Prop := Claim7.holds Tryd.pinned (.plain (OpenSpec.ofChange fnTableFromSpec)) fnTableFromCard

/-- THE SECOND FORM's CARD OF 'laws.FnPeopleText'. -/
def fnPeopleTextUptoCard : Claim7 := { stood := { row := fnPeopleTextUptoRow, standIns := [], harness := (true, "1f4b99fcc09d2dce142a38e13cc2e865530923b2ee6dd40b1e83248509b9c4d0"), looks := true }, kinds := [], alts := [], laidByText := true, laidKinds := [.data, .data, .data, .data, .sentinel, .sentinel, .pinned], laidTests := true, laidLooks := .later }
def FnPeopleTextUptoCardSaid : Prop := Claim7.holds Tryd.pinned (.plain (OpenSpec.upto fnPeopleTextSpec)) fnPeopleTextUptoCard

/-- THE SECOND FORM's CARD OF 'laws.FnTableText'. -/
def fnTableTextUptoCard : Claim7 := { stood := { row := fnTableTextUptoRow, standIns := [], harness := (true, "1f4b99fcc09d2dce142a38e13cc2e865530923b2ee6dd40b1e83248509b9c4d0"), looks := true }, kinds := [], alts := [], laidByText := true, laidKinds := [.data, .data, .data, .data, .sentinel, .sentinel, .pinned], laidTests := true, laidLooks := .later }
def FnTableTextUptoCardSaid : Prop := Claim7.holds Tryd.pinned (.plain (OpenSpec.upto fnTableTextSpec)) fnTableTextUptoCard

/-- THE SECOND FORM's CARD OF 'laws.FnExactTableFrom'. -/
def fnExactTableFromUptoCard : Claim7 := { stood := { row := fnExactTableFromUptoRow, standIns := [], harness := (true, "1f4b99fcc09d2dce142a38e13cc2e865530923b2ee6dd40b1e83248509b9c4d0"), looks := true }, kinds := [], alts := [], laidByText := true, laidKinds := [.data, .data, .data, .data, .sentinel, .sentinel, .pinned], laidTests := true, laidLooks := .later }
def FnExactTableFromUptoCardSaid : Prop := Claim7.holds Tryd.pinned (.plain (OpenSpec.upto fnExactTableFromSpec)) fnExactTableFromUptoCard

/-- THE SECOND FORM's CARD OF 'laws.FnExactPeopleFrom'. -/
def fnExactPeopleFromUptoCard : Claim7 := { stood := { row := fnExactPeopleFromUptoRow, standIns := [], harness := (true, "1f4b99fcc09d2dce142a38e13cc2e865530923b2ee6dd40b1e83248509b9c4d0"), looks := true }, kinds := [], alts := [], laidByText := true, laidKinds := [.data, .data, .data, .data, .sentinel, .sentinel, .pinned], laidTests := true, laidLooks := .later }
def FnExactPeopleFromUptoCardSaid : Prop := Claim7.holds Tryd.pinned (.plain (OpenSpec.upto fnExactPeopleFromSpec)) fnExactPeopleFromUptoCard

/-- THE SECOND FORM's CARD OF 'laws.FnPeopleFrom'. -/
def fnPeopleFromUptoCard : Claim7 := { stood := { row := fnPeopleFromUptoRow, standIns := [], harness := (true, "1f4b99fcc09d2dce142a38e13cc2e865530923b2ee6dd40b1e83248509b9c4d0"), looks := true }, kinds := [], alts := [], laidByText := true, laidKinds := [.data, .data, .data, .data, .sentinel, .sentinel, .pinned], laidTests := true, laidLooks := .later }
def FnPeopleFromUptoCardSaid : Prop := Claim7.holds Tryd.pinned (.plain (OpenSpec.upto fnPeopleFromSpec)) fnPeopleFromUptoCard

/-- THE SECOND FORM's CARD OF 'laws.FnTableFrom'. -/
def fnTableFromUptoCard : Claim7 := { stood := { row := fnTableFromUptoRow, standIns := [], harness := (true, "1f4b99fcc09d2dce142a38e13cc2e865530923b2ee6dd40b1e83248509b9c4d0"), looks := true }, kinds := [], alts := [], laidByText := true, laidKinds := [.data, .data, .data, .data, .sentinel, .sentinel, .pinned], laidTests := true, laidLooks := .later }
def FnTableFromUptoCardSaid : Prop := Claim7.holds Tryd.pinned (.plain (OpenSpec.upto fnTableFromSpec)) fnTableFromUptoCard
end Rows
end Go.Proofs.YthncpnopplhlkaaDoor
