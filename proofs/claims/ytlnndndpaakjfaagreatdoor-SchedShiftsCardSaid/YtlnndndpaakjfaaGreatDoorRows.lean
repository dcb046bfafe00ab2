/-
  NARROWER THAN 'FOR EVERY INPUT', by the rows' own cells (each row's printed sentence says how): SeqHolds: laid · SeqSound: laid · SeqDecides: laid · SeqStrong: laid · SeqRenamed: laid · SeqTables: laid · SeqOrders: laid · SchedHolds: laid · SchedSound: laid · SchedDecides: laid · SchedStrong: laid · SchedRenamed: laid · SchedTimes: laid · SchedShifts: laid.
  DERIVED. THE GIVEN ROWS OF THIS SEAT. 14 by the template 'for every input the law returns true; each argument reads behind the call as it read before'; 0 by the template 'total and deterministic' (their statements: YtlnndndpaakjfaaGreatDoorTotals.lean).
  GIVEN WITH THE SEED: the statements are not yours to turn. If you find one false, say at which input.
  Laid BY PROGRAM, IN A SANDBOX (cutbox-rows.mjs): the forced cells as the released guide's own fill.sh prints them over the translation 36d7679356754ad9… (all of the seat's roots in one cut). By AI agents, Wed Nov 11 2026. No macro, syntax, notation, axiom, sorry.
-/
import Derived.Test.YtlnndndpaakjfaaGreatDoorChecked
import GoSem.PinnedTables
import GoSem.Claim
import GoSem.ClaimJoined
import GoSem.ClaimMapViews
import Derived.JoinedTies
import Derived.KernelRfl
namespace Go.Proofs.YtlnndndpaakjfaaGreatDoor
/- THE CELL 'sum', in the pinned program and in every row, IS THE sha256 OF THE DUMP (.gsa) THAT YtlnndndpaakjfaaGreatDoorProg.lean LOADS. Nothing in Lean hashes anything: it is a label: what it is worth is what the hold of that sum in a sandbox is worth. -/
noncomputable def Tryz.pinned : Pinned := { name := "ytlnndndpaakjfaagreatdoor", sum := "36d7679356754ad9205914e62e2009a701a0b0cc42ff6ff9a51b3a228ddb8214", checked := Tryz.checked }
namespace Rows
def none {H : Type} : Left H := { results := [], args := [] }

/- WHAT THE LISTED PACKAGE-LEVEL VARIABLES READ AS WHEN THE CALL BEGINS. Each datum BY PROGRAM (the guide's laid-datum.mjs) off the statement by which the dump's own 'gosem.cut.vars' lays the variable. In a bare row this is a premise. The card (YtlnndndpaakjfaaGreatDoorCards.lean) ties it to the program's text. -/
def laid_unicode_utf8_acceptRanges {H : Type} : DataW H := .agg [.agg [.lit (.int .u8 128), .lit (.int .u8 191)], .agg [.lit (.int .u8 160), .lit (.int .u8 191)], .agg [.lit (.int .u8 128), .lit (.int .u8 159)], .agg [.lit (.int .u8 144), .lit (.int .u8 191)], .agg [.lit (.int .u8 128), .lit (.int .u8 143)], .agg [.lit (.int .u8 0), .lit (.int .u8 0)], .agg [.lit (.int .u8 0), .lit (.int .u8 0)], .agg [.lit (.int .u8 0), .lit (.int .u8 0)], .agg [.lit (.int .u8 0), .lit (.int .u8 0)], .agg [.lit (.int .u8 0), .lit (.int .u8 0)], .agg [.lit (.int .u8 0), .lit (.int .u8 0)], .agg [.lit (.int .u8 0), .lit (.int .u8 0)], .agg [.lit (.int .u8 0), .lit (.int .u8 0)], .agg [.lit (.int .u8 0), .lit (.int .u8 0)], .agg [.lit (.int .u8 0), .lit (.int .u8 0)], .agg [.lit (.int .u8 0), .lit (.int .u8 0)]]
/-- One of Go's own tables, pinned by name: the form's constant. -/
def laid_unicode_utf8_first : DataW Unit := Go.Pinned.utf8First

/-- 'jigsawlaw12.SeqHolds': WHATEVER THE INPUT: true; the input reads as it did. -/
def seqHoldsSpec : ChangeSpec := { name := "seqHolds", fn := fun _ => fun
  | [d1, d2] => { results := [.lit (.bool true)], args := [d1, d2] }
  | _ => none }
def seqHoldsRow : OpenClaim := { program := "ytlnndndpaakjfaagreatdoor", sum := "36d7679356754ad9205914e62e2009a701a0b0cc42ff6ff9a51b3a228ddb8214", func := "jigsaw/jigsawlaw12.SeqHolds", spec := "seqHolds", inPlace := ["internal/bytealg.CountString", "internal/bytealg.IndexByteString", "internal/bytealg.IndexString"], unfollowed := true, recurses := true, named := ["unicode/utf8.first", "unicode/utf8.acceptRanges", "internal/bytealg.MaxLen"], apart := false, laid := [("unicode/utf8.acceptRanges", laid_unicode_utf8_acceptRanges), ("unicode/utf8.first", laid_unicode_utf8_first)] }
def SeqHoldsSaid : Prop := seqHoldsRow.holds Tryz.pinned (OpenSpec.ofChange seqHoldsSpec)

/-- ITS FALSE NEIGHBOUR: 'it returns false'. Refute it at one input. -/
def seqHoldsWrong : ChangeSpec := { name := "seqHolds", fn := fun _ => fun
  | [d1, d2] => { results := [.lit (.bool false)], args := [d1, d2] }
  | _ => none }
def SeqHoldsWrongFalsely : Prop := seqHoldsRow.holds Tryz.pinned (OpenSpec.ofChange seqHoldsWrong)

/-- 'jigsawlaw12.SeqSound': WHATEVER THE INPUT: true; the input reads as it did. -/
def seqSoundSpec : ChangeSpec := { name := "seqSound", fn := fun _ => fun
  | [d1, d2] => { results := [.lit (.bool true)], args := [d1, d2] }
  | _ => none }
def seqSoundRow : OpenClaim := { program := "ytlnndndpaakjfaagreatdoor", sum := "36d7679356754ad9205914e62e2009a701a0b0cc42ff6ff9a51b3a228ddb8214", func := "jigsaw/jigsawlaw12.SeqSound", spec := "seqSound", inPlace := ["internal/bytealg.CountString", "internal/bytealg.IndexByteString", "internal/bytealg.IndexString"], unfollowed := true, recurses := true, named := ["unicode/utf8.first", "unicode/utf8.acceptRanges", "internal/bytealg.MaxLen"], apart := false, laid := [("unicode/utf8.acceptRanges", laid_unicode_utf8_acceptRanges), ("unicode/utf8.first", laid_unicode_utf8_first)] }
def SeqSoundSaid : Prop := seqSoundRow.holds Tryz.pinned (OpenSpec.ofChange seqSoundSpec)

/-- ITS FALSE NEIGHBOUR: 'it returns false'. Refute it at one input. -/
def seqSoundWrong : ChangeSpec := { name := "seqSound", fn := fun _ => fun
  | [d1, d2] => { results := [.lit (.bool false)], args := [d1, d2] }
  | _ => none }
def SeqSoundWrongFalsely : Prop := seqSoundRow.holds Tryz.pinned (OpenSpec.ofChange seqSoundWrong)

/-- 'jigsawlaw12.SeqDecides': WHATEVER THE INPUT: true; the input reads as it did. -/
def seqDecidesSpec : ChangeSpec := { name := "seqDecides", fn := fun _ => fun
  | [d1, d2] => { results := [.lit (.bool true)], args := [d1, d2] }
  | _ => none }
def seqDecidesRow : OpenClaim := { program := "ytlnndndpaakjfaagreatdoor", sum := "36d7679356754ad9205914e62e2009a701a0b0cc42ff6ff9a51b3a228ddb8214", func := "jigsaw/jigsawlaw12.SeqDecides", spec := "seqDecides", inPlace := ["internal/bytealg.CountString", "internal/bytealg.IndexByteString", "internal/bytealg.IndexString"], unfollowed := true, recurses := true, named := ["unicode/utf8.first", "unicode/utf8.acceptRanges", "internal/bytealg.MaxLen"], apart := false, laid := [("unicode/utf8.acceptRanges", laid_unicode_utf8_acceptRanges), ("unicode/utf8.first", laid_unicode_utf8_first)] }
def SeqDecidesSaid : Prop := seqDecidesRow.holds Tryz.pinned (OpenSpec.ofChange seqDecidesSpec)

/-- ITS FALSE NEIGHBOUR: 'it returns false'. Refute it at one input. -/
def seqDecidesWrong : ChangeSpec := { name := "seqDecides", fn := fun _ => fun
  | [d1, d2] => { results := [.lit (.bool false)], args := [d1, d2] }
  | _ => none }
def SeqDecidesWrongFalsely : Prop := seqDecidesRow.holds Tryz.pinned (OpenSpec.ofChange seqDecidesWrong)

/-- 'jigsawlaw12.SeqStrong': WHATEVER THE INPUT: true; the input reads as it did. -/
def seqStrongSpec : ChangeSpec := { name := "seqStrong", fn := fun _ => fun
  | [d1, d2, d3, d4] => { results := [.lit (.bool true)], args := [d1, d2, d3, d4] }
  | _ => none }
def seqStrongRow : OpenClaim := { program := "ytlnndndpaakjfaagreatdoor", sum := "36d7679356754ad9205914e62e2009a701a0b0cc42ff6ff9a51b3a228ddb8214", func := "jigsaw/jigsawlaw12.SeqStrong", spec := "seqStrong", inPlace := ["internal/bytealg.CountString", "internal/bytealg.IndexByteString", "internal/bytealg.IndexString"], unfollowed := true, recurses := true, named := ["unicode/utf8.first", "unicode/utf8.acceptRanges", "internal/bytealg.MaxLen"], apart := false, laid := [("unicode/utf8.acceptRanges", laid_unicode_utf8_acceptRanges), ("unicode/utf8.first", laid_unicode_utf8_first)] }
def SeqStrongSaid : Prop := seqStrongRow.holds Tryz.pinned (OpenSpec.ofChange seqStrongSpec)

/-- ITS FALSE NEIGHBOUR: 'it returns false'. Refute it at one input. -/
def seqStrongWrong : ChangeSpec := { name := "seqStrong", fn := fun _ => fun
  | [d1, d2, d3, d4] => { results := [.lit (.bool false)], args := [d1, d2, d3, d4] }
  | _ => none }
def SeqStrongWrongFalsely : Prop := seqStrongRow.holds Tryz.pinned (OpenSpec.ofChange seqStrongWrong)

/-- 'jigsawlaw12.SeqRenamed': WHATEVER THE INPUT: true; the input reads as it did. -/
def seqRenamedSpec : ChangeSpec := { name := "seqRenamed", fn := fun _ => fun
  | [d1, d2, d3] => { results := [.lit (.bool true)], args := [d1, d2, d3] }
  | _ => none }
def seqRenamedRow : OpenClaim := { program := "ytlnndndpaakjfaagreatdoor", sum := "36d7679356754ad9205914e62e2009a701a0b0cc42ff6ff9a51b3a228ddb8214", func := "jigsaw/jigsawlaw12.SeqRenamed", spec := "seqRenamed", inPlace := ["internal/bytealg.CountString", "internal/bytealg.IndexByteString", "internal/bytealg.IndexString"], unfollowed := true, recurses := true, named := ["unicode/utf8.first", "unicode/utf8.acceptRanges", "internal/bytealg.MaxLen"], apart := false, laid := [("unicode/utf8.acceptRanges", laid_unicode_utf8_acceptRanges), ("unicode/utf8.first", laid_unicode_utf8_first)] }
def SeqRenamedSaid : Prop := seqRenamedRow.holds Tryz.pinned (OpenSpec.ofChange seqRenamedSpec)

/-- ITS FALSE NEIGHBOUR: 'it returns false'. Refute it at one input. -/
def seqRenamedWrong : ChangeSpec := { name := "seqRenamed", fn := fun _ => fun
  | [d1, d2, d3] => { results := [.lit (.bool false)], args := [d1, d2, d3] }
  | _ => none }
def SeqRenamedWrongFalsely : Prop := seqRenamedRow.holds Tryz.pinned (OpenSpec.ofChange seqRenamedWrong)

/-- 'jigsawlaw12.SeqTables': WHATEVER THE INPUT: true; the input reads as it did. -/
def seqTablesSpec : ChangeSpec := { name := "seqTables", fn := fun _ => fun
  | [d1, d2] => { results := [.lit (.bool true)], args := [d1, d2] }
  | _ => none }
def seqTablesRow : OpenClaim := { program := "ytlnndndpaakjfaagreatdoor", sum := "36d7679356754ad9205914e62e2009a701a0b0cc42ff6ff9a51b3a228ddb8214", func := "jigsaw/jigsawlaw12.SeqTables", spec := "seqTables", inPlace := ["internal/bytealg.CountString", "internal/bytealg.IndexByteString", "internal/bytealg.IndexString"], unfollowed := true, recurses := true, named := ["unicode/utf8.first", "unicode/utf8.acceptRanges", "internal/bytealg.MaxLen"], apart := false, laid := [("unicode/utf8.acceptRanges", laid_unicode_utf8_acceptRanges), ("unicode/utf8.first", laid_unicode_utf8_first)] }
def SeqTablesSaid : Prop := seqTablesRow.holds Tryz.pinned (OpenSpec.ofChange seqTablesSpec)

/-- ITS FALSE NEIGHBOUR: 'it returns false'. Refute it at one input. -/
def seqTablesWrong : ChangeSpec := { name := "seqTables", fn := fun _ => fun
  | [d1, d2] => { results := [.lit (.bool false)], args := [d1, d2] }
  | _ => none }
def SeqTablesWrongFalsely : Prop := seqTablesRow.holds Tryz.pinned (OpenSpec.ofChange seqTablesWrong)

/-- 'jigsawlaw12.SeqOrders': WHATEVER THE INPUT: true; the input reads as it did. -/
def seqOrdersSpec : ChangeSpec := { name := "seqOrders", fn := fun _ => fun
  | [d1, d2] => { results := [.lit (.bool true)], args := [d1, d2] }
  | _ => none }
def seqOrdersRow : OpenClaim := { program := "ytlnndndpaakjfaagreatdoor", sum := "36d7679356754ad9205914e62e2009a701a0b0cc42ff6ff9a51b3a228ddb8214", func := "jigsaw/jigsawlaw12.SeqOrders", spec := "seqOrders", inPlace := ["internal/bytealg.CountString", "internal/bytealg.IndexByteString", "internal/bytealg.IndexString"], unfollowed := true, recurses := true, named := ["unicode/utf8.first", "unicode/utf8.acceptRanges", "internal/bytealg.MaxLen"], apart := false, laid := [("unicode/utf8.acceptRanges", laid_unicode_utf8_acceptRanges), ("unicode/utf8.first", laid_unicode_utf8_first)] }
def SeqOrdersSaid : Prop := seqOrdersRow.holds Tryz.pinned (OpenSpec.ofChange seqOrdersSpec)

/-- ITS FALSE NEIGHBOUR: 'it returns false'. Refute it at one input. -/
def seqOrdersWrong : ChangeSpec := { name := "seqOrders", fn := fun _ => fun
  | [d1, d2] => { results := [.lit (.bool false)], args := [d1, d2] }
  | _ => none }
def SeqOrdersWrongFalsely : Prop := seqOrdersRow.holds Tryz.pinned (OpenSpec.ofChange seqOrdersWrong)

/-- 'jigsawlaw13.SchedHolds': WHATEVER THE INPUT: true; the input reads as it did. -/
def schedHoldsSpec : ChangeSpec := { name := "schedHolds", fn := fun _ => fun
  | [d1, d2] => { results := [.lit (.bool true)], args := [d1, d2] }
  | _ => none }
def schedHoldsRow : OpenClaim := { program := "ytlnndndpaakjfaagreatdoor", sum := "36d7679356754ad9205914e62e2009a701a0b0cc42ff6ff9a51b3a228ddb8214", func := "jigsaw/jigsawlaw13.SchedHolds", spec := "schedHolds", inPlace := ["internal/bytealg.CountString", "internal/bytealg.IndexByteString", "internal/bytealg.IndexString"], unfollowed := true, recurses := true, named := ["unicode/utf8.first", "unicode/utf8.acceptRanges", "internal/bytealg.MaxLen"], apart := false, laid := [("unicode/utf8.acceptRanges", laid_unicode_utf8_acceptRanges), ("unicode/utf8.first", laid_unicode_utf8_first)] }
def SchedHoldsSaid : Prop := schedHoldsRow.holds Tryz.pinned (OpenSpec.ofChange schedHoldsSpec)

/-- ITS FALSE NEIGHBOUR: 'it returns false'. Refute it at one input. -/
def schedHoldsWrong : ChangeSpec := { name := "schedHolds", fn := fun _ => fun
  | [d1, d2] => { results := [.lit (.bool false)], args := [d1, d2] }
  | _ => none }
def SchedHoldsWrongFalsely : Prop := schedHoldsRow.holds Tryz.pinned (OpenSpec.ofChange schedHoldsWrong)

/-- 'jigsawlaw13.SchedSound': WHATEVER THE INPUT: true; the input reads as it did. -/
def schedSoundSpec : ChangeSpec := { name := "schedSound", fn := fun _ => fun
  | [d1, d2] => { results := [.lit (.bool true)], args := [d1, d2] }
  | _ => none }
def schedSoundRow : OpenClaim := { program := "ytlnndndpaakjfaagreatdoor", sum := "36d7679356754ad9205914e62e2009a701a0b0cc42ff6ff9a51b3a228ddb8214", func := "jigsaw/jigsawlaw13.SchedSound", spec := "schedSound", inPlace := ["internal/bytealg.CountString", "internal/bytealg.IndexByteString", "internal/bytealg.IndexString"], unfollowed := true, recurses := true, named := ["unicode/utf8.first", "unicode/utf8.acceptRanges", "internal/bytealg.MaxLen"], apart := false, laid := [("unicode/utf8.acceptRanges", laid_unicode_utf8_acceptRanges), ("unicode/utf8.first", laid_unicode_utf8_first)] }
def SchedSoundSaid : Prop := schedSoundRow.holds Tryz.pinned (OpenSpec.ofChange schedSoundSpec)

/-- ITS FALSE NEIGHBOUR: 'it returns false'. Refute it at one input. -/
def schedSoundWrong : ChangeSpec := { name := "schedSound", fn := fun _ => fun
  | [d1, d2] => { results := [.lit (.bool false)], args := [d1, d2] }
  | _ => none }
def SchedSoundWrongFalsely : Prop := schedSoundRow.holds Tryz.pinned (OpenSpec.ofChange schedSoundWrong)

/-- 'jigsawlaw13.SchedDecides': WHATEVER THE INPUT: true; the input reads as it did. -/
def schedDecidesSpec : ChangeSpec := { name := "schedDecides", fn := fun _ => fun
  | [d1, d2] => { results := [.lit (.bool true)], args := [d1, d2] }
  | _ => none }
def schedDecidesRow : OpenClaim := { program := "ytlnndndpaakjfaagreatdoor", sum := "36d7679356754ad9205914e62e2009a701a0b0cc42ff6ff9a51b3a228ddb8214", func := "jigsaw/jigsawlaw13.SchedDecides", spec := "schedDecides", inPlace := ["internal/bytealg.CountString", "internal/bytealg.IndexByteString", "internal/bytealg.IndexString"], unfollowed := true, recurses := true, named := ["unicode/utf8.first", "unicode/utf8.acceptRanges", "internal/bytealg.MaxLen"], apart := false, laid := [("unicode/utf8.acceptRanges", laid_unicode_utf8_acceptRanges), ("unicode/utf8.first", laid_unicode_utf8_first)] }
def SchedDecidesSaid : Prop := schedDecidesRow.holds Tryz.pinned (OpenSpec.ofChange schedDecidesSpec)

/-- ITS FALSE NEIGHBOUR: 'it returns false'. Refute it at one input. -/
def schedDecidesWrong : ChangeSpec := { name := "schedDecides", fn := fun _ => fun
  | [d1, d2] => { results := [.lit (.bool false)], args := [d1, d2] }
  | _ => none }
def SchedDecidesWrongFalsely : Prop := schedDecidesRow.holds Tryz.pinned (OpenSpec.ofChange schedDecidesWrong)

/-- 'jigsawlaw13.SchedStrong': WHATEVER THE INPUT: true; the input reads as it did. -/
def schedStrongSpec : ChangeSpec := { name := "schedStrong", fn := fun _ => fun
  | [d1, d2, d3, d4] => { results := [.lit (.bool true)], args := [d1, d2, d3, d4] }
  | _ => none }
def schedStrongRow : OpenClaim := { program := "ytlnndndpaakjfaagreatdoor", sum := "36d7679356754ad9205914e62e2009a701a0b0cc42ff6ff9a51b3a228ddb8214", func := "jigsaw/jigsawlaw13.SchedStrong", spec := "schedStrong", inPlace := ["internal/bytealg.CountString", "internal/bytealg.IndexByteString", "internal/bytealg.IndexString"], unfollowed := true, recurses := true, named := ["unicode/utf8.first", "unicode/utf8.acceptRanges", "internal/bytealg.MaxLen"], apart := false, laid := [("unicode/utf8.acceptRanges", laid_unicode_utf8_acceptRanges), ("unicode/utf8.first", laid_unicode_utf8_first)] }
def SchedStrongSaid : Prop := schedStrongRow.holds Tryz.pinned (OpenSpec.ofChange schedStrongSpec)

/-- ITS FALSE NEIGHBOUR: 'it returns false'. Refute it at one input. -/
def schedStrongWrong : ChangeSpec := { name := "schedStrong", fn := fun _ => fun
  | [d1, d2, d3, d4] => { results := [.lit (.bool false)], args := [d1, d2, d3, d4] }
  | _ => none }
def SchedStrongWrongFalsely : Prop := schedStrongRow.holds Tryz.pinned (OpenSpec.ofChange schedStrongWrong)

/-- 'jigsawlaw13.SchedRenamed': WHATEVER THE INPUT: true; the input reads as it did. -/
def schedRenamedSpec : ChangeSpec := { name := "schedRenamed", fn := fun _ => fun
  | [d1, d2, d3] => { results := [.lit (.bool true)], args := [d1, d2, d3] }
  | _ => none }
def schedRenamedRow : OpenClaim := { program := "ytlnndndpaakjfaagreatdoor", sum := "36d7679356754ad9205914e62e2009a701a0b0cc42ff6ff9a51b3a228ddb8214", func := "jigsaw/jigsawlaw13.SchedRenamed", spec := "schedRenamed", inPlace := ["internal/bytealg.CountString", "internal/bytealg.IndexByteString", "internal/bytealg.IndexString"], unfollowed := true, recurses := true, named := ["unicode/utf8.first", "unicode/utf8.acceptRanges", "internal/bytealg.MaxLen"], apart := false, laid := [("unicode/utf8.acceptRanges", laid_unicode_utf8_acceptRanges), ("unicode/utf8.first", laid_unicode_utf8_first)] }
def SchedRenamedSaid : Prop := schedRenamedRow.holds Tryz.pinned (OpenSpec.ofChange schedRenamedSpec)

/-- ITS FALSE NEIGHBOUR: 'it returns false'. Refute it at one input. -/
def schedRenamedWrong : ChangeSpec := { name := "schedRenamed", fn := fun _ => fun
  | [d1, d2, d3] => { results := [.lit (.bool false)], args := [d1, d2, d3] }
  | _ => none }
def SchedRenamedWrongFalsely : Prop := schedRenamedRow.holds Tryz.pinned (OpenSpec.ofChange schedRenamedWrong)

/-- 'jigsawlaw13.SchedTimes': WHATEVER THE INPUT: true; the input reads as it did. -/
def schedTimesSpec : ChangeSpec := { name := "schedTimes", fn := fun _ => fun
  | [d1, d2] => { results := [.lit (.bool true)], args := [d1, d2] }
  | _ => none }
def schedTimesRow : OpenClaim := { program := "ytlnndndpaakjfaagreatdoor", sum := "36d7679356754ad9205914e62e2009a701a0b0cc42ff6ff9a51b3a228ddb8214", func := "jigsaw/jigsawlaw13.SchedTimes", spec := "schedTimes", inPlace := ["internal/bytealg.CountString", "internal/bytealg.IndexByteString", "internal/bytealg.IndexString"], unfollowed := true, recurses := true, named := ["unicode/utf8.first", "unicode/utf8.acceptRanges", "internal/bytealg.MaxLen"], apart := false, laid := [("unicode/utf8.acceptRanges", laid_unicode_utf8_acceptRanges), ("unicode/utf8.first", laid_unicode_utf8_first)] }
def SchedTimesSaid : Prop := schedTimesRow.holds Tryz.pinned (OpenSpec.ofChange schedTimesSpec)

/-- ITS FALSE NEIGHBOUR: 'it returns false'. Refute it at one input. -/
def schedTimesWrong : ChangeSpec := { name := "schedTimes", fn := fun _ => fun
  | [d1, d2] => { results := [.lit (.bool false)], args := [d1, d2] }
  | _ => none }
def SchedTimesWrongFalsely : Prop := schedTimesRow.holds Tryz.pinned (OpenSpec.ofChange schedTimesWrong)

/-- 'jigsawlaw13.SchedShifts': WHATEVER THE INPUT: true; the input reads as it did. -/
def schedShiftsSpec : ChangeSpec := { name := "schedShifts", fn := fun _ => fun
  | [d1, d2, d3] => { results := [.lit (.bool true)], args := [d1, d2, d3] }
  | _ => none }
def schedShiftsRow : OpenClaim := { program := "ytlnndndpaakjfaagreatdoor", sum := "36d7679356754ad9205914e62e2009a701a0b0cc42ff6ff9a51b3a228ddb8214", func := "jigsaw/jigsawlaw13.SchedShifts", spec := "schedShifts", inPlace := ["internal/bytealg.CountString", "internal/bytealg.IndexByteString", "internal/bytealg.IndexString"], unfollowed := true, recurses := true, named := ["unicode/utf8.first", "unicode/utf8.acceptRanges", "internal/bytealg.MaxLen"], apart := false, laid := [("unicode/utf8.acceptRanges", laid_unicode_utf8_acceptRanges), ("unicode/utf8.first", laid_unicode_utf8_first)] }
def SchedShiftsSaid : Prop := schedShiftsRow.holds Tryz.pinned (OpenSpec.ofChange schedShiftsSpec)

/-- ITS FALSE NEIGHBOUR: 'it returns false'. Refute it at one input. -/
def schedShiftsWrong : ChangeSpec := { name := "schedShifts", fn := fun _ => fun
  | [d1, d2, d3] => { results := [.lit (.bool false)], args := [d1, d2, d3] }
  | _ => none }
def SchedShiftsWrongFalsely : Prop := schedShiftsRow.holds Tryz.pinned (OpenSpec.ofChange schedShiftsWrong)

/- THE SECOND FORM. 'bulk': how many values and letters a reading holds, each counted each time it is reached (what is shared counts as often as it is met; a slice's spare places count too). A statement '..UptoSaid' is the law's where the arguments, and the package variables that the reading takes, are together of bulk at most 1048576: NARROWER than '..Said'. Prove '..Said' where nothing that the law and all that it calls make is longer than what came in: it says more and counts as full. Else prove '..UptoSaid'. A law counts once. -/
mutual
def uptoBulk {H : Type} : DataW H → Nat
  | .lit (.string bytes) => bytes.length + 1
  | .lit _ => 1
  | .nil => 1
  | .ptr d => uptoBulk d + 1
  | .slice elems spare => uptoBulkAll elems + uptoBulkAll spare + 1
  | .agg parts => uptoBulkAll parts + 1
  | .iface _ d => uptoBulk d + 1
  | .map entries => uptoBulkEntries entries + 1
  | .held _ => 1
def uptoBulkAll {H : Type} : List (DataW H) → Nat
  | [] => 0
  | d :: r => uptoBulk d + uptoBulkAll r
def uptoBulkEntries {H : Type} : List (Lit × DataW H) → Nat
  | [] => 0
  | x :: r => uptoBulkEntry x + uptoBulkEntries r
def uptoBulkEntry {H : Type} : Lit × DataW H → Nat
  | (.string bytes, d) => bytes.length + uptoBulk d + 1
  | (_, d) => uptoBulk d + 1
 end
def uptoSmall : (H : Type) → List (DataW H) → Bool := fun _ ds => decide (uptoBulkAll ds ≤ 1048576)
def OpenSpec.upto (s : _root_.Go.ChangeSpec) : _root_.Go.OpenSpec := { _root_.Go.OpenSpec.ofChange s with cond := some uptoSmall }

/-- 'jigsawlaw12.SeqHolds', WHERE WHAT IT READS IS OF BULK AT MOST 1048576: true; the input reads as it did. -/
def seqHoldsUptoRow : OpenClaim := { program := "ytlnndndpaakjfaagreatdoor", sum := "36d7679356754ad9205914e62e2009a701a0b0cc42ff6ff9a51b3a228ddb8214", func := "jigsaw/jigsawlaw12.SeqHolds", spec := "seqHolds", inPlace := ["internal/bytealg.CountString", "internal/bytealg.IndexByteString", "internal/bytealg.IndexString"], unfollowed := true, recurses := true, named := ["unicode/utf8.first", "unicode/utf8.acceptRanges", "internal/bytealg.MaxLen"], apart := false, laid := [("unicode/utf8.acceptRanges", laid_unicode_utf8_acceptRanges), ("unicode/utf8.first", laid_unicode_utf8_first)], narrowed := true }
def SeqHoldsUptoSaid : Prop := seqHoldsUptoRow.holds Tryz.pinned (OpenSpec.upto seqHoldsSpec)

/-- 'jigsawlaw12.SeqSound', WHERE WHAT IT READS IS OF BULK AT MOST 1048576: true; the input reads as it did. -/
def seqSoundUptoRow : OpenClaim := { program := "ytlnndndpaakjfaagreatdoor", sum := "36d7679356754ad9205914e62e2009a701a0b0cc42ff6ff9a51b3a228ddb8214", func := "jigsaw/jigsawlaw12.SeqSound", spec := "seqSound", inPlace := ["internal/bytealg.CountString", "internal/bytealg.IndexByteString", "internal/bytealg.IndexString"], unfollowed := true, recurses := true, named := ["unicode/utf8.first", "unicode/utf8.acceptRanges", "internal/bytealg.MaxLen"], apart := false, laid := [("unicode/utf8.acceptRanges", laid_unicode_utf8_acceptRanges), ("unicode/utf8.first", laid_unicode_utf8_first)], narrowed := true }
def SeqSoundUptoSaid : Prop := seqSoundUptoRow.holds Tryz.pinned (OpenSpec.upto seqSoundSpec)

/-- 'jigsawlaw12.SeqDecides', WHERE WHAT IT READS IS OF BULK AT MOST 1048576: true; the input reads as it did. -/
def seqDecidesUptoRow : OpenClaim := { program := "ytlnndndpaakjfaagreatdoor", sum := "36d7679356754ad9205914e62e2009a701a0b0cc42ff6ff9a51b3a228ddb8214", func := "jigsaw/jigsawlaw12.SeqDecides", spec := "seqDecides", inPlace := ["internal/bytealg.CountString", "internal/bytealg.IndexByteString", "internal/bytealg.IndexString"], unfollowed := true, recurses := true, named := ["unicode/utf8.first", "unicode/utf8.acceptRanges", "internal/bytealg.MaxLen"], apart := false, laid := [("unicode/utf8.acceptRanges", laid_unicode_utf8_acceptRanges), ("unicode/utf8.first", laid_unicode_utf8_first)], narrowed := true }
def SeqDecidesUptoSaid : Prop := seqDecidesUptoRow.holds Tryz.pinned (OpenSpec.upto seqDecidesSpec)

/-- 'jigsawlaw12.SeqStrong', WHERE WHAT IT READS IS OF BULK AT MOST 1048576: true; the input reads as it did. -/
def seqStrongUptoRow : OpenClaim := { program := "ytlnndndpaakjfaagreatdoor", sum := "36d7679356754ad9205914e62e2009a701a0b0cc42ff6ff9a51b3a228ddb8214", func := "jigsaw/jigsawlaw12.SeqStrong", spec := "seqStrong", inPlace := ["internal/bytealg.CountString", "internal/bytealg.IndexByteString", "internal/bytealg.IndexString"], unfollowed := true, recurses := true, named := ["unicode/utf8.first", "unicode/utf8.acceptRanges", "internal/bytealg.MaxLen"], apart := false, laid := [("unicode/utf8.acceptRanges", laid_unicode_utf8_acceptRanges), ("unicode/utf8.first", laid_unicode_utf8_first)], narrowed := true }
def SeqStrongUptoSaid : Prop := seqStrongUptoRow.holds Tryz.pinned (OpenSpec.upto seqStrongSpec)

/-- 'jigsawlaw12.SeqRenamed', WHERE WHAT IT READS IS OF BULK AT MOST 1048576: true; the input reads as it did. -/
def seqRenamedUptoRow : OpenClaim := { program := "ytlnndndpaakjfaagreatdoor", sum := "36d7679356754ad9205914e62e2009a701a0b0cc42ff6ff9a51b3a228ddb8214", func := "jigsaw/jigsawlaw12.SeqRenamed", spec := "seqRenamed", inPlace := ["internal/bytealg.CountString", "internal/bytealg.IndexByteString", "internal/bytealg.IndexString"], unfollowed := true, recurses := true, named := ["unicode/utf8.first", "unicode/utf8.acceptRanges", "internal/bytealg.MaxLen"], apart := false, laid := [("unicode/utf8.acceptRanges", laid_unicode_utf8_acceptRanges), ("unicode/utf8.first", laid_unicode_utf8_first)], narrowed := true }
def SeqRenamedUptoSaid : Prop := seqRenamedUptoRow.holds Tryz.pinned (OpenSpec.upto seqRenamedSpec)

/-- 'jigsawlaw12.SeqTables', WHERE WHAT IT READS IS OF BULK AT MOST 1048576: true; the input reads as it did. -/
def seqTablesUptoRow : OpenClaim := { program := "ytlnndndpaakjfaagreatdoor", sum := "36d7679356754ad9205914e62e2009a701a0b0cc42ff6ff9a51b3a228ddb8214", func := "jigsaw/jigsawlaw12.SeqTables", spec := "seqTables", inPlace := ["internal/bytealg.CountString", "internal/bytealg.IndexByteString", "internal/bytealg.IndexString"], unfollowed := true, recurses := true, named := ["unicode/utf8.first", "unicode/utf8.acceptRanges", "internal/bytealg.MaxLen"], apart := false, laid := [("unicode/utf8.acceptRanges", laid_unicode_utf8_acceptRanges), ("unicode/utf8.first", laid_unicode_utf8_first)], narrowed := true }
def SeqTablesUptoSaid : Prop := seqTablesUptoRow.holds Tryz.pinned (OpenSpec.upto seqTablesSpec)

/-- 'jigsawlaw12.SeqOrders', WHERE WHAT IT READS IS OF BULK AT MOST 1048576: true; the input reads as it did. -/
def seqOrdersUptoRow : OpenClaim := { program := "ytlnndndpaakjfaagreatdoor", sum := "36d7679356754ad9205914e62e2009a701a0b0cc42ff6ff9a51b3a228ddb8214", func := "jigsaw/jigsawlaw12.SeqOrders", spec := "seqOrders", inPlace := ["internal/bytealg.CountString", "internal/bytealg.IndexByteString", "internal/bytealg.IndexString"], unfollowed := true, recurses := true, named := ["unicode/utf8.first", "unicode/utf8.acceptRanges", "internal/bytealg.MaxLen"], apart := false, laid := [("unicode/utf8.acceptRanges", laid_unicode_utf8_acceptRanges), ("unicode/utf8.first", laid_unicode_utf8_first)], narrowed := true }
def SeqOrdersUptoSaid : Prop := seqOrdersUptoRow.holds Tryz.pinned (OpenSpec.upto seqOrdersSpec)

/-- 'jigsawlaw13.SchedHolds', WHERE WHAT IT READS IS OF BULK AT MOST 1048576: true; the input reads as it did. -/
def schedHoldsUptoRow : OpenClaim := { program := "ytlnndndpaakjfaagreatdoor", sum := "36d7679356754ad9205914e62e2009a701a0b0cc42ff6ff9a51b3a228ddb8214", func := "jigsaw/jigsawlaw13.SchedHolds", spec := "schedHolds", inPlace := ["internal/bytealg.CountString", "internal/bytealg.IndexByteString", "internal/bytealg.IndexString"], unfollowed := true, recurses := true, named := ["unicode/utf8.first", "unicode/utf8.acceptRanges", "internal/bytealg.MaxLen"], apart := false, laid := [("unicode/utf8.acceptRanges", laid_unicode_utf8_acceptRanges), ("unicode/utf8.first", laid_unicode_utf8_first)], narrowed := true }
def SchedHoldsUptoSaid : Prop := schedHoldsUptoRow.holds Tryz.pinned (OpenSpec.upto schedHoldsSpec)

/-- 'jigsawlaw13.SchedSound', WHERE WHAT IT READS IS OF BULK AT MOST 1048576: true; the input reads as it did. -/
def schedSoundUptoRow : OpenClaim := { program := "ytlnndndpaakjfaagreatdoor", sum := "36d7679356754ad9205914e62e2009a701a0b0cc42ff6ff9a51b3a228ddb8214", func := "jigsaw/jigsawlaw13.SchedSound", spec := "schedSound", inPlace := ["internal/bytealg.CountString", "internal/bytealg.IndexByteString", "internal/bytealg.IndexString"], unfollowed := true, recurses := true, named := ["unicode/utf8.first", "unicode/utf8.acceptRanges", "internal/bytealg.MaxLen"], apart := false, laid := [("unicode/utf8.acceptRanges", laid_unicode_utf8_acceptRanges), ("unicode/utf8.first", laid_unicode_utf8_first)], narrowed := true }
def SchedSoundUptoSaid : Prop := schedSoundUptoRow.holds Tryz.pinned (OpenSpec.upto schedSoundSpec)

/-- 'jigsawlaw13.SchedDecides', WHERE WHAT IT READS IS OF BULK AT MOST 1048576: true; the input reads as it did. -/
def schedDecidesUptoRow : OpenClaim := { program := "ytlnndndpaakjfaagreatdoor", sum := "36d7679356754ad9205914e62e2009a701a0b0cc42ff6ff9a51b3a228ddb8214", func := "jigsaw/jigsawlaw13.SchedDecides", spec := "schedDecides", inPlace := ["internal/bytealg.CountString", "internal/bytealg.IndexByteString", "internal/bytealg.IndexString"], unfollowed := true, recurses := true, named := ["unicode/utf8.first", "unicode/utf8.acceptRanges", "internal/bytealg.MaxLen"], apart := false, laid := [("unicode/utf8.acceptRanges", laid_unicode_utf8_acceptRanges), ("unicode/utf8.first", laid_unicode_utf8_first)], narrowed := true }
def SchedDecidesUptoSaid : Prop := schedDecidesUptoRow.holds Tryz.pinned (OpenSpec.upto schedDecidesSpec)

/-- 'jigsawlaw13.SchedStrong', WHERE WHAT IT READS IS OF BULK AT MOST 1048576: true; the input reads as it did. -/
def schedStrongUptoRow : OpenClaim := { program := "ytlnndndpaakjfaagreatdoor", sum := "36d7679356754ad9205914e62e2009a701a0b0cc42ff6ff9a51b3a228ddb8214", func := "jigsaw/jigsawlaw13.SchedStrong", spec := "schedStrong", inPlace := ["internal/bytealg.CountString", "internal/bytealg.IndexByteString", "internal/bytealg.IndexString"], unfollowed := true, recurses := true, named := ["unicode/utf8.first", "unicode/utf8.acceptRanges", "internal/bytealg.MaxLen"], apart := false, laid := [("unicode/utf8.acceptRanges", laid_unicode_utf8_acceptRanges), ("unicode/utf8.first", laid_unicode_utf8_first)], narrowed := true }
def SchedStrongUptoSaid : Prop := schedStrongUptoRow.holds Tryz.pinned (OpenSpec.upto schedStrongSpec)

/-- 'jigsawlaw13.SchedRenamed', WHERE WHAT IT READS IS OF BULK AT MOST 1048576: true; the input reads as it did. -/
def schedRenamedUptoRow : OpenClaim := { program := "ytlnndndpaakjfaagreatdoor", sum := "36d7679356754ad9205914e62e2009a701a0b0cc42ff6ff9a51b3a228ddb8214", func := "jigsaw/jigsawlaw13.SchedRenamed", spec := "schedRenamed", inPlace := ["internal/bytealg.CountString", "internal/bytealg.IndexByteString", "internal/bytealg.IndexString"], unfollowed := true, recurses := true, named := ["unicode/utf8.first", "unicode/utf8.acceptRanges", "internal/bytealg.MaxLen"], apart := false, laid := [("unicode/utf8.acceptRanges", laid_unicode_utf8_acceptRanges), ("unicode/utf8.first", laid_unicode_utf8_first)], narrowed := true }
def SchedRenamedUptoSaid : Prop := schedRenamedUptoRow.holds Tryz.pinned (OpenSpec.upto schedRenamedSpec)

/-- 'jigsawlaw13.SchedTimes', WHERE WHAT IT READS IS OF BULK AT MOST 1048576: true; the input reads as it did. -/
def schedTimesUptoRow : OpenClaim := { program := "ytlnndndpaakjfaagreatdoor", sum := "36d7679356754ad9205914e62e2009a701a0b0cc42ff6ff9a51b3a228ddb8214", func := "jigsaw/jigsawlaw13.SchedTimes", spec := "schedTimes", inPlace := ["internal/bytealg.CountString", "internal/bytealg.IndexByteString", "internal/bytealg.IndexString"], unfollowed := true, recurses := true, named := ["unicode/utf8.first", "unicode/utf8.acceptRanges", "internal/bytealg.MaxLen"], apart := false, laid := [("unicode/utf8.acceptRanges", laid_unicode_utf8_acceptRanges), ("unicode/utf8.first", laid_unicode_utf8_first)], narrowed := true }
def SchedTimesUptoSaid : Prop := schedTimesUptoRow.holds Tryz.pinned (OpenSpec.upto schedTimesSpec)

/-- 'jigsawlaw13.SchedShifts', WHERE WHAT IT READS IS OF BULK AT MOST 1048576: true; the input reads as it did. -/
def schedShiftsUptoRow : OpenClaim := { program := "ytlnndndpaakjfaagreatdoor", sum := "36d7679356754ad9205914e62e2009a701a0b0cc42ff6ff9a51b3a228ddb8214", func := "jigsaw/jigsawlaw13.SchedShifts", spec := "schedShifts", inPlace := ["internal/bytealg.CountString", "internal/bytealg.IndexByteString", "internal/bytealg.IndexString"], unfollowed := true, recurses := true, named := ["unicode/utf8.first", "unicode/utf8.acceptRanges", "internal/bytealg.MaxLen"], apart := false, laid := [("unicode/utf8.acceptRanges", laid_unicode_utf8_acceptRanges), ("unicode/utf8.first", laid_unicode_utf8_first)], narrowed := true }
def SchedShiftsUptoSaid : Prop := schedShiftsUptoRow.holds Tryz.pinned (OpenSpec.upto schedShiftsSpec)

end Rows
end Go.Proofs.YtlnndndpaakjfaaGreatDoor
