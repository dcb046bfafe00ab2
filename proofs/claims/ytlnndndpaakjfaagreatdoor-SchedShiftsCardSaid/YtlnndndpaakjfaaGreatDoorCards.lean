/-
  DERIVED. GIVEN WITH THE SEED: THE CARDS: each row of YtlnndndpaakjfaaGreatDoorRows.lean that lists a variable, with what it lists TIED to the program's text (the seventh form; the later family's looks); each row that meets fmt, with fmt's text TOLD by the authors' own Lean function (tested against real Go, not proved from fmt's source: count such statements apart). THE CARD IS WHAT COUNTS. Prove the row's statement (the work); the ties are given (YtlnndndpaakjfaaGreatDoorTie.lean); close each card by the builder's one call (the guide's Derived/Test/ToyasCard.lean, 'card_holds'). Laid BY PROGRAM, IN A SANDBOX (cutbox-door.mjs). By AI agents, Wed Nov 11 2026. No macro, syntax, notation, axiom, sorry.
-/
import Derived.Test.YtlnndndpaakjfaaGreatDoorRows
import GoSem.ClaimSeven
namespace Go.Proofs.YtlnndndpaakjfaaGreatDoor
namespace Rows

/-- THE TIED CARD OF 'jigsawlaw12.SeqHolds'. -/
def seqHoldsCard : Claim7 := { stood := { row := seqHoldsRow, standIns := [], harness := (true, "dbd05a2dd0c9a6ee3040f8ca955fce4d13163fd9ad8b651639741d51bbd05a85"), looks := true }, kinds := [], alts := [], laidByText := true, laidKinds := [.data, .pinned], laidTests := true, laidLooks := .later }
def SeqHoldsCardSaid : Prop := Claim7.holds Tryz.pinned (.plain (OpenSpec.ofChange seqHoldsSpec)) seqHoldsCard

/-- THE TIED CARD OF 'jigsawlaw12.SeqSound'. -/
def seqSoundCard : Claim7 := { stood := { row := seqSoundRow, standIns := [], harness := (true, "dbd05a2dd0c9a6ee3040f8ca955fce4d13163fd9ad8b651639741d51bbd05a85"), looks := true }, kinds := [], alts := [], laidByText := true, laidKinds := [.data, .pinned], laidTests := true, laidLooks := .later }
def SeqSoundCardSaid : Prop := Claim7.holds Tryz.pinned (.plain (OpenSpec.ofChange seqSoundSpec)) seqSoundCard

/-- THE TIED CARD OF 'jigsawlaw12.SeqDecides'. -/
def seqDecidesCard : Claim7 := { stood := { row := seqDecidesRow, standIns := [], harness := (true, "dbd05a2dd0c9a6ee3040f8ca955fce4d13163fd9ad8b651639741d51bbd05a85"), looks := true }, kinds := [], alts := [], laidByText := true, laidKinds := [.data, .pinned], laidTests := true, laidLooks := .later }
def SeqDecidesCardSaid : Prop := Claim7.holds Tryz.pinned (.plain (OpenSpec.ofChange seqDecidesSpec)) seqDecidesCard

/-- THE TIED CARD OF 'jigsawlaw12.SeqStrong'. -/
def seqStrongCard : Claim7 := { stood := { row := seqStrongRow, standIns := [], harness := (true, "dbd05a2dd0c9a6ee3040f8ca955fce4d13163fd9ad8b651639741d51bbd05a85"), looks := true }, kinds := [], alts := [], laidByText := true, laidKinds := [.data, .pinned], laidTests := true, laidLooks := .later }
def SeqStrongCardSaid : Prop := Claim7.holds Tryz.pinned (.plain (OpenSpec.ofChange seqStrongSpec)) seqStrongCard

/-- THE TIED CARD OF 'jigsawlaw12.SeqRenamed'. -/
def seqRenamedCard : Claim7 := { stood := { row := seqRenamedRow, standIns := [], harness := (true, "dbd05a2dd0c9a6ee3040f8ca955fce4d13163fd9ad8b651639741d51bbd05a85"), looks := true }, kinds := [], alts := [], laidByText := true, laidKinds := [.data, .pinned], laidTests := true, laidLooks := .later }
def SeqRenamedCardSaid : Prop := Claim7.holds Tryz.pinned (.plain (OpenSpec.ofChange seqRenamedSpec)) seqRenamedCard

/-- THE TIED CARD OF 'jigsawlaw12.SeqTables'. -/
def seqTablesCard : Claim7 := { stood := { row := seqTablesRow, standIns := [], harness := (true, "dbd05a2dd0c9a6ee3040f8ca955fce4d13163fd9ad8b651639741d51bbd05a85"), looks := true }, kinds := [], alts := [], laidByText := true, laidKinds := [.data, .pinned], laidTests := true, laidLooks := .later }
def SeqTablesCardSaid : Prop := Claim7.holds Tryz.pinned (.plain (OpenSpec.ofChange seqTablesSpec)) seqTablesCard

/-- THE TIED CARD OF 'jigsawlaw12.SeqOrders'. -/
def seqOrdersCard : Claim7 := { stood := { row := seqOrdersRow, standIns := [], harness := (true, "dbd05a2dd0c9a6ee3040f8ca955fce4d13163fd9ad8b651639741d51bbd05a85"), looks := true }, kinds := [], alts := [], laidByText := true, laidKinds := [.data, .pinned], laidTests := true, laidLooks := .later }
def SeqOrdersCardSaid : Prop := Claim7.holds Tryz.pinned (.plain (OpenSpec.ofChange seqOrdersSpec)) seqOrdersCard

/-- THE TIED CARD OF 'jigsawlaw13.SchedHolds'. -/
def schedHoldsCard : Claim7 := { stood := { row := schedHoldsRow, standIns := [], harness := (true, "dbd05a2dd0c9a6ee3040f8ca955fce4d13163fd9ad8b651639741d51bbd05a85"), looks := true }, kinds := [], alts := [], laidByText := true, laidKinds := [.data, .pinned], laidTests := true, laidLooks := .later }
def SchedHoldsCardSaid : Prop := Claim7.holds Tryz.pinned (.plain (OpenSpec.ofChange schedHoldsSpec)) schedHoldsCard

/-- THE TIED CARD OF 'jigsawlaw13.SchedSound'. -/
def schedSoundCard : Claim7 := { stood := { row := schedSoundRow, standIns := [], harness := (true, "dbd05a2dd0c9a6ee3040f8ca955fce4d13163fd9ad8b651639741d51bbd05a85"), looks := true }, kinds := [], alts := [], laidByText := true, laidKinds := [.data, .pinned], laidTests := true, laidLooks := .later }
def SchedSoundCardSaid : Prop := Claim7.holds Tryz.pinned (.plain (OpenSpec.ofChange schedSoundSpec)) schedSoundCard

/-- THE TIED CARD OF 'jigsawlaw13.SchedDecides'. -/
def schedDecidesCard : Claim7 := { stood := { row := schedDecidesRow, standIns := [], harness := (true, "dbd05a2dd0c9a6ee3040f8ca955fce4d13163fd9ad8b651639741d51bbd05a85"), looks := true }, kinds := [], alts := [], laidByText := true, laidKinds := [.data, .pinned], laidTests := true, laidLooks := .later }
def SchedDecidesCardSaid : Prop := Claim7.holds Tryz.pinned (.plain (OpenSpec.ofChange schedDecidesSpec)) schedDecidesCard

/-- THE TIED CARD OF 'jigsawlaw13.SchedStrong'. -/
def schedStrongCard : Claim7 := { stood := { row := schedStrongRow, standIns := [], harness := (true, "dbd05a2dd0c9a6ee3040f8ca955fce4d13163fd9ad8b651639741d51bbd05a85"), looks := true }, kinds := [], alts := [], laidByText := true, laidKinds := [.data, .pinned], laidTests := true, laidLooks := .later }
def SchedStrongCardSaid : Prop := Claim7.holds Tryz.pinned (.plain (OpenSpec.ofChange schedStrongSpec)) schedStrongCard

/-- THE TIED CARD OF 'jigsawlaw13.SchedRenamed'. -/
def schedRenamedCard : Claim7 := { stood := { row := schedRenamedRow, standIns := [], harness := (true, "dbd05a2dd0c9a6ee3040f8ca955fce4d13163fd9ad8b651639741d51bbd05a85"), looks := true }, kinds := [], alts := [], laidByText := true, laidKinds := [.data, .pinned], laidTests := true, laidLooks := .later }
def SchedRenamedCardSaid : Prop := Claim7.holds Tryz.pinned (.plain (OpenSpec.ofChange schedRenamedSpec)) schedRenamedCard

/-- THE TIED CARD OF 'jigsawlaw13.SchedTimes'. -/
def schedTimesCard : Claim7 := { stood := { row := schedTimesRow, standIns := [], harness := (true, "dbd05a2dd0c9a6ee3040f8ca955fce4d13163fd9ad8b651639741d51bbd05a85"), looks := true }, kinds := [], alts := [], laidByText := true, laidKinds := [.data, .pinned], laidTests := true, laidLooks := .later }
def SchedTimesCardSaid : Prop := Claim7.holds Tryz.pinned (.plain (OpenSpec.ofChange schedTimesSpec)) schedTimesCard

/-- THE TIED CARD OF 'jigsawlaw13.SchedShifts'. -/
def schedShiftsCard : Claim7 := { stood := { row := schedShiftsRow, standIns := [], harness := (true, "dbd05a2dd0c9a6ee3040f8ca955fce4d13163fd9ad8b651639741d51bbd05a85"), looks := true }, kinds := [], alts := [], laidByText := true, laidKinds := [.data, .pinned], laidTests := true, laidLooks := .later }
def SchedShiftsCardSaid : Prop := Claim7.holds Tryz.pinned (.plain (OpenSpec.ofChange schedShiftsSpec)) schedShiftsCard

/-- THE SECOND FORM's CARD OF 'jigsawlaw12.SeqHolds'. -/
def seqHoldsUptoCard : Claim7 := { stood := { row := seqHoldsUptoRow, standIns := [], harness := (true, "dbd05a2dd0c9a6ee3040f8ca955fce4d13163fd9ad8b651639741d51bbd05a85"), looks := true }, kinds := [], alts := [], laidByText := true, laidKinds := [.data, .pinned], laidTests := true, laidLooks := .later }
def SeqHoldsUptoCardSaid : Prop := Claim7.holds Tryz.pinned (.plain (OpenSpec.upto seqHoldsSpec)) seqHoldsUptoCard

/-- THE SECOND FORM's CARD OF 'jigsawlaw12.SeqSound'. -/
def seqSoundUptoCard : Claim7 := { stood := { row := seqSoundUptoRow, standIns := [], harness := (true, "dbd05a2dd0c9a6ee3040f8ca955fce4d13163fd9ad8b651639741d51bbd05a85"), looks := true }, kinds := [], alts := [], laidByText := true, laidKinds := [.data, .pinned], laidTests := true, laidLooks := .later }
def SeqSoundUptoCardSaid : Prop := Claim7.holds Tryz.pinned (.plain (OpenSpec.upto seqSoundSpec)) seqSoundUptoCard

/-- THE SECOND FORM's CARD OF 'jigsawlaw12.SeqDecides'. -/
def seqDecidesUptoCard : Claim7 := { stood := { row := seqDecidesUptoRow, standIns := [], harness := (true, "dbd05a2dd0c9a6ee3040f8ca955fce4d13163fd9ad8b651639741d51bbd05a85"), looks := true }, kinds := [], alts := [], laidByText := true, laidKinds := [.data, .pinned], laidTests := true, laidLooks := .later }
def SeqDecidesUptoCardSaid : Prop := Claim7.holds Tryz.pinned (.plain (OpenSpec.upto seqDecidesSpec)) seqDecidesUptoCard

/-- THE SECOND FORM's CARD OF 'jigsawlaw12.SeqStrong'. -/
def seqStrongUptoCard : Claim7 := { stood := { row := seqStrongUptoRow, standIns := [], harness := (true, "dbd05a2dd0c9a6ee3040f8ca955fce4d13163fd9ad8b651639741d51bbd05a85"), looks := true }, kinds := [], alts := [], laidByText := true, laidKinds := [.data, .pinned], laidTests := true, laidLooks := .later }
def SeqStrongUptoCardSaid : Prop := Claim7.holds Tryz.pinned (.plain (OpenSpec.upto seqStrongSpec)) seqStrongUptoCard

/-- THE SECOND FORM's CARD OF 'jigsawlaw12.SeqRenamed'. -/
def seqRenamedUptoCard : Claim7 := { stood := { row := seqRenamedUptoRow, standIns := [], harness := (true, "dbd05a2dd0c9a6ee3040f8ca955fce4d13163fd9ad8b651639741d51bbd05a85"), looks := true }, kinds := [], alts := [], laidByText := true, laidKinds := [.data, .pinned], laidTests := true, laidLooks := .later }
def SeqRenamedUptoCardSaid : Prop := Claim7.holds Tryz.pinned (.plain (OpenSpec.upto seqRenamedSpec)) seqRenamedUptoCard

/-- THE SECOND FORM's CARD OF 'jigsawlaw12.SeqTables'. -/
def seqTablesUptoCard : Claim7 := { stood := { row := seqTablesUptoRow, standIns := [], harness := (true, "dbd05a2dd0c9a6ee3040f8ca955fce4d13163fd9ad8b651639741d51bbd05a85"), looks := true }, kinds := [], alts := [], laidByText := true, laidKinds := [.data, .pinned], laidTests := true, laidLooks := .later }
def SeqTablesUptoCardSaid : Prop := Claim7.holds Tryz.pinned (.plain (OpenSpec.upto seqTablesSpec)) seqTablesUptoCard

/-- THE SECOND FORM's CARD OF 'jigsawlaw12.SeqOrders'. -/
def seqOrdersUptoCard : Claim7 := { stood := { row := seqOrdersUptoRow, standIns := [], harness := (true, "dbd05a2dd0c9a6ee3040f8ca955fce4d13163fd9ad8b651639741d51bbd05a85"), looks := true }, kinds := [], alts := [], laidByText := true, laidKinds := [.data, .pinned], laidTests := true, laidLooks := .later }
def SeqOrdersUptoCardSaid : Prop := Claim7.holds Tryz.pinned (.plain (OpenSpec.upto seqOrdersSpec)) seqOrdersUptoCard

/-- THE SECOND FORM's CARD OF 'jigsawlaw13.SchedHolds'. -/
def schedHoldsUptoCard : Claim7 := { stood := { row := schedHoldsUptoRow, standIns := [], harness := (true, "dbd05a2dd0c9a6ee3040f8ca955fce4d13163fd9ad8b651639741d51bbd05a85"), looks := true }, kinds := [], alts := [], laidByText := true, laidKinds := [.data, .pinned], laidTests := true, laidLooks := .later }
def SchedHoldsUptoCardSaid : Prop := Claim7.holds Tryz.pinned (.plain (OpenSpec.upto schedHoldsSpec)) schedHoldsUptoCard

/-- THE SECOND FORM's CARD OF 'jigsawlaw13.SchedSound'. -/
def schedSoundUptoCard : Claim7 := { stood := { row := schedSoundUptoRow, standIns := [], harness := (true, "dbd05a2dd0c9a6ee3040f8ca955fce4d13163fd9ad8b651639741d51bbd05a85"), looks := true }, kinds := [], alts := [], laidByText := true, laidKinds := [.data, .pinned], laidTests := true, laidLooks := .later }
def SchedSoundUptoCardSaid : Prop := Claim7.holds Tryz.pinned (.plain (OpenSpec.upto schedSoundSpec)) schedSoundUptoCard

/-- THE SECOND FORM's CARD OF 'jigsawlaw13.SchedDecides'. -/
def schedDecidesUptoCard : Claim7 := { stood := { row := schedDecidesUptoRow, standIns := [], harness := (true, "dbd05a2dd0c9a6ee3040f8ca955fce4d13163fd9ad8b651639741d51bbd05a85"), looks := true }, kinds := [], alts := [], laidByText := true, laidKinds := [.data, .pinned], laidTests := true, laidLooks := .later }
def SchedDecidesUptoCardSaid : Prop := Claim7.holds Tryz.pinned (.plain (OpenSpec.upto schedDecidesSpec)) schedDecidesUptoCard

/-- THE SECOND FORM's CARD OF 'jigsawlaw13.SchedStrong'. -/
def schedStrongUptoCard : Claim7 := { stood := { row := schedStrongUptoRow, standIns := [], harness := (true, "dbd05a2dd0c9a6ee3040f8ca955fce4d13163fd9ad8b651639741d51bbd05a85"), looks := true }, kinds := [], alts := [], laidByText := true, laidKinds := [.data, .pinned], laidTests := true, laidLooks := .later }
def SchedStrongUptoCardSaid : Prop := Claim7.holds Tryz.pinned (.plain (OpenSpec.upto schedStrongSpec)) schedStrongUptoCard

/-- THE SECOND FORM's CARD OF 'jigsawlaw13.SchedRenamed'. -/
def schedRenamedUptoCard : Claim7 := { stood := { row := schedRenamedUptoRow, standIns := [], harness := (true, "dbd05a2dd0c9a6ee3040f8ca955fce4d13163fd9ad8b651639741d51bbd05a85"), looks := true }, kinds := [], alts := [], laidByText := true, laidKinds := [.data, .pinned], laidTests := true, laidLooks := .later }
def SchedRenamedUptoCardSaid : Prop := Claim7.holds Tryz.pinned (.plain (OpenSpec.upto schedRenamedSpec)) schedRenamedUptoCard

/-- THE SECOND FORM's CARD OF 'jigsawlaw13.SchedTimes'. -/
def schedTimesUptoCard : Claim7 := { stood := { row := schedTimesUptoRow, standIns := [], harness := (true, "dbd05a2dd0c9a6ee3040f8ca955fce4d13163fd9ad8b651639741d51bbd05a85"), looks := true }, kinds := [], alts := [], laidByText := true, laidKinds := [.data, .pinned], laidTests := true, laidLooks := .later }
def SchedTimesUptoCardSaid : Prop := Claim7.holds Tryz.pinned (.plain (OpenSpec.upto schedTimesSpec)) schedTimesUptoCard

/-- THE SECOND FORM's CARD OF 'jigsawlaw13.SchedShifts'. -/
def schedShiftsUptoCard : Claim7 := { stood := { row := schedShiftsUptoRow, standIns := [], harness := (true, "dbd05a2dd0c9a6ee3040f8ca955fce4d13163fd9ad8b651639741d51bbd05a85"), looks := true }, kinds := [], alts := [], laidByText := true, laidKinds := [.data, .pinned], laidTests := true, laidLooks := .later }
def SchedShiftsUptoCardSaid : Prop := Claim7.holds Tryz.pinned (.plain (OpenSpec.upto schedShiftsSpec)) schedShiftsUptoCard
end Rows
end Go.Proofs.YtlnndndpaakjfaaGreatDoor
