/-
  DERIVED. GIVEN WITH THE SEED: THE CARDS: each row of YtcjhenfofekofaaGreatDoorRows.lean that lists a variable, with what it lists TIED to the program's text (the seventh form; the later family's looks); each row that meets fmt, with fmt's text TOLD by the authors' own Lean function (tested against real Go, not proved from fmt's source: count such statements apart). THE CARD IS WHAT COUNTS. Prove the row's statement (the work); the ties are given (YtcjhenfofekofaaGreatDoorTie.lean); close each card by the builder's one call (the guide's Derived/Test/ToyasCard.lean, 'card_holds'). Laid BY PROGRAM, IN A SANDBOX (cutbox-door.mjs). By AI agents, Wed Nov 11 2026. No macro, syntax, notation, axiom, sorry.
-/
import Derived.Test.YtcjhenfofekofaaGreatDoorRows
import GoSem.ClaimSeven
namespace Go.Proofs.YtcjhenfofekofaaGreatDoor
namespace Rows

/-- THE TIED CARD OF 'laws.FnExecuteCount'. -/
def fnExecuteCountCard : Claim7 := { stood := { row := fnExecuteCountRow, standIns := [], harness := (true, "b7e0865e8f9079b6f4019dcc4a8f6bcf2b2f910bc6aa0d64babc1f636e7e7fc8"), looks := true }, kinds := [], alts := [], laidByText := true, laidKinds := [.data, .data, .data, .data, .sentinel, .sentinel, .pinned], laidTests := true, laidLooks := .later }
def FnExecuteCountCardSaid : Prop := Claim7.holds Tryz.pinned (.plain (OpenSpec.ofChange fnExecuteCountSpec)) fnExecuteCountCard

/-- THE TIED CARD OF 'laws.FnExecuteDrop'. -/
def fnExecuteDropCard : Claim7 := { stood := { row := fnExecuteDropRow, standIns := [], harness := (true, "b7e0865e8f9079b6f4019dcc4a8f6bcf2b2f910bc6aa0d64babc1f636e7e7fc8"), looks := true }, kinds := [], alts := [], laidByText := true, laidKinds := [.data, .data, .data, .data, .sentinel, .sentinel, .pinned], laidTests := true, laidLooks := .later }
def FnExecuteDropCardSaid : Prop := Claim7.holds Tryz.pinned (.plain (OpenSpec.ofChange fnExecuteDropSpec)) fnExecuteDropCard

/-- THE TIED CARD OF 'laws.FnExecuteGroups'. -/
def fnExecuteGroupsCard : Claim7 := { stood := { row := fnExecuteGroupsRow, standIns := [], harness := (true, "b7e0865e8f9079b6f4019dcc4a8f6bcf2b2f910bc6aa0d64babc1f636e7e7fc8"), looks := true }, kinds := [], alts := [], laidByText := true, laidKinds := [.data, .data, .data, .data, .sentinel, .sentinel, .pinned], laidTests := true, laidLooks := .later }
def FnExecuteGroupsCardSaid : Prop := Claim7.holds Tryz.pinned (.plain (OpenSpec.ofChange fnExecuteGroupsSpec)) fnExecuteGroupsCard

/-- THE TIED CARD OF 'laws.FnExecuteGrow'. -/
def fnExecuteGrowCard : Claim7 := { stood := { row := fnExecuteGrowRow, standIns := [], harness := (true, "b7e0865e8f9079b6f4019dcc4a8f6bcf2b2f910bc6aa0d64babc1f636e7e7fc8"), looks := true }, kinds := [], alts := [], laidByText := true, laidKinds := [.data, .data, .data, .data, .sentinel, .sentinel, .pinned], laidTests := true, laidLooks := .later }
def FnExecuteGrowCardSaid : Prop := Claim7.holds Tryz.pinned (.plain (OpenSpec.ofChange fnExecuteGrowSpec)) fnExecuteGrowCard

/-- THE TIED CARD OF 'laws.FnExecuteSmall'. -/
def fnExecuteSmallCard : Claim7 := { stood := { row := fnExecuteSmallRow, standIns := [], harness := (true, "b7e0865e8f9079b6f4019dcc4a8f6bcf2b2f910bc6aa0d64babc1f636e7e7fc8"), looks := true }, kinds := [], alts := [], laidByText := true, laidKinds := [.data, .data, .data, .data, .sentinel, .sentinel, .pinned], laidTests := true, laidLooks := .later }
def FnExecuteSmallCardSaid : Prop := Claim7.holds Tryz.pinned (.plain (OpenSpec.ofChange fnExecuteSmallSpec)) fnExecuteSmallCard

/-- THE TIED CARD OF 'laws.FnExecuteTable'. -/
def fnExecuteTableCard : Claim7 := { stood := { row := fnExecuteTableRow, standIns := [], harness := (true, "b7e0865e8f9079b6f4019dcc4a8f6bcf2b2f910bc6aa0d64babc1f636e7e7fc8"), looks := true }, kinds := [], alts := [], laidByText := true, laidKinds := [.data, .data, .data, .data, .sentinel, .sentinel, .pinned], laidTests := true, laidLooks := .later }
def FnExecuteTableCardSaid : Prop := Claim7.holds Tryz.pinned (.plain (OpenSpec.ofChange fnExecuteTableSpec)) fnExecuteTableCard

/-- THE TIED CARD OF 'laws.FnExecuteRound'. -/
def fnExecuteRoundCard : Claim7 := { stood := { row := fnExecuteRoundRow, standIns := [], harness := (true, "b7e0865e8f9079b6f4019dcc4a8f6bcf2b2f910bc6aa0d64babc1f636e7e7fc8"), looks := true }, kinds := [], alts := [], laidByText := true, laidKinds := [.data, .data, .data, .data, .sentinel, .sentinel, .pinned], laidTests := true, laidLooks := .later }
def FnExecuteRoundCardSaid : Prop := Claim7.holds Tryz.pinned (.plain (OpenSpec.ofChange fnExecuteRoundSpec)) fnExecuteRoundCard

/-- THE SECOND FORM's CARD OF 'laws.FnExecuteCount'. -/
def fnExecuteCountUptoCard : Claim7 := { stood := { row := fnExecuteCountUptoRow, standIns := [], harness := (true, "b7e0865e8f9079b6f4019dcc4a8f6bcf2b2f910bc6aa0d64babc1f636e7e7fc8"), looks := true }, kinds := [], alts := [], laidByText := true, laidKinds := [.data, .data, .data, .data, .sentinel, .sentinel, .pinned], laidTests := true, laidLooks := .later }
def FnExecuteCountUptoCardSaid : Prop := Claim7.holds Tryz.pinned (.plain (OpenSpec.upto fnExecuteCountSpec)) fnExecuteCountUptoCard

/-- THE SECOND FORM's CARD OF 'laws.FnExecuteDrop'. -/
def fnExecuteDropUptoCard : Claim7 := { stood := { row := fnExecuteDropUptoRow, standIns := [], harness := (true, "b7e0865e8f9079b6f4019dcc4a8f6bcf2b2f910bc6aa0d64babc1f636e7e7fc8"), looks := true }, kinds := [], alts := [], laidByText := true, laidKinds := [.data, .data, .data, .data, .sentinel, .sentinel, .pinned], laidTests := true, laidLooks := .later }
def FnExecuteDropUptoCardSaid : Prop := Claim7.holds Tryz.pinned (.plain (OpenSpec.upto fnExecuteDropSpec)) fnExecuteDropUptoCard

/-- THE SECOND FORM's CARD OF 'laws.FnExecuteGroups'. -/
def fnExecuteGroupsUptoCard : Claim7 := { stood := { row := fnExecuteGroupsUptoRow, standIns := [], harness := (true, "b7e0865e8f9079b6f4019dcc4a8f6bcf2b2f910bc6aa0d64babc1f636e7e7fc8"), looks := true }, kinds := [], alts := [], laidByText := true, laidKinds := [.data, .data, .data, .data, .sentinel, .sentinel, .pinned], laidTests := true, laidLooks := .later }
def FnExecuteGroupsUptoCardSaid : Prop := Claim7.holds Tryz.pinned (.plain (OpenSpec.upto fnExecuteGroupsSpec)) fnExecuteGroupsUptoCard

/-- THE SECOND FORM's CARD OF 'laws.FnExecuteGrow'. -/
def fnExecuteGrowUptoCard : Claim7 := { stood := { row := fnExecuteGrowUptoRow, standIns := [], harness := (true, "b7e0865e8f9079b6f4019dcc4a8f6bcf2b2f910bc6aa0d64babc1f636e7e7fc8"), looks := true }, kinds := [], alts := [], laidByText := true, laidKinds := [.data, .data, .data, .data, .sentinel, .sentinel, .pinned], laidTests := true, laidLooks := .later }
def FnExecuteGrowUptoCardSaid : Prop := Claim7.holds Tryz.pinned (.plain (OpenSpec.upto fnExecuteGrowSpec)) fnExecuteGrowUptoCard

/-- THE SECOND FORM's CARD OF 'laws.FnExecuteSmall'. -/
def fnExecuteSmallUptoCard : Claim7 := { stood := { row := fnExecuteSmallUptoRow, standIns := [], harness := (true, "b7e0865e8f9079b6f4019dcc4a8f6bcf2b2f910bc6aa0d64babc1f636e7e7fc8"), looks := true }, kinds := [], alts := [], laidByText := true, laidKinds := [.data, .data, .data, .data, .sentinel, .sentinel, .pinned], laidTests := true, laidLooks := .later }
def FnExecuteSmallUptoCardSaid : Prop := Claim7.holds Tryz.pinned (.plain (OpenSpec.upto fnExecuteSmallSpec)) fnExecuteSmallUptoCard

/-- THE SECOND FORM's CARD OF 'laws.FnExecuteTable'. -/
def fnExecuteTableUptoCard : Claim7 := { stood := { row := fnExecuteTableUptoRow, standIns := [], harness := (true, "b7e0865e8f9079b6f4019dcc4a8f6bcf2b2f910bc6aa0d64babc1f636e7e7fc8"), looks := true }, kinds := [], alts := [], laidByText := true, laidKinds := [.data, .data, .data, .data, .sentinel, .sentinel, .pinned], laidTests := true, laidLooks := .later }
def FnExecuteTableUptoCardSaid : Prop := Claim7.holds Tryz.pinned (.plain (OpenSpec.upto fnExecuteTableSpec)) fnExecuteTableUptoCard

/-- THE SECOND FORM's CARD OF 'laws.FnExecuteRound'. -/
def fnExecuteRoundUptoCard : Claim7 := { stood := { row := fnExecuteRoundUptoRow, standIns := [], harness := (true, "b7e0865e8f9079b6f4019dcc4a8f6bcf2b2f910bc6aa0d64babc1f636e7e7fc8"), looks := true }, kinds := [], alts := [], laidByText := true, laidKinds := [.data, .data, .data, .data, .sentinel, .sentinel, .pinned], laidTests := true, laidLooks := .later }
def FnExecuteRoundUptoCardSaid : Prop := Claim7.holds Tryz.pinned (.plain (OpenSpec.upto fnExecuteRoundSpec)) fnExecuteRoundUptoCard
end Rows
end Go.Proofs.YtcjhenfofekofaaGreatDoor
