/-
  NARROWER THAN 'FOR EVERY INPUT', by the rows' own cells (each row's printed sentence says how): LogNobody: laid · SeatTakes: laid · SeatFull: laid · SeatBack: laid · SeatPuts: laid · SeatLater: laid · EntryPuts: laid · EntryBack: laid · EntryTakes: laid · JournalNobody: laid · JournalTells: laid.
  DERIVED. THE GIVEN ROWS OF THIS SEAT. 11 by the template 'for every input the law returns true; each argument reads behind the call as it read before'; 0 by the template 'total and deterministic' (their statements: YtalnmhlfjdocfaaDoorTotals.lean).
  GIVEN WITH THE SEED: the statements are not yours to turn. If you find one false, say at which input.
  Laid BY PROGRAM, IN A SANDBOX (cutbox-rows.mjs): the forced cells as the released guide's own fill.sh prints them over the translation de93c7b36b3db118… (all of the seat's roots in one cut). By AI agents, Wed Nov 11 2026. No macro, syntax, notation, axiom, sorry.
-/
import Derived.Test.YtalnmhlfjdocfaaDoorChecked
import GoSem.PinnedTables
import GoSem.Claim
import GoSem.ClaimJoined
import GoSem.ClaimMapViews
import Derived.JoinedTies
import Derived.KernelRfl
namespace Go.Proofs.YtalnmhlfjdocfaaDoor
/- THE CELL 'sum', in the pinned program and in every row, IS THE sha256 OF THE DUMP (.gsa) THAT YtalnmhlfjdocfaaDoorProg.lean LOADS. Nothing in Lean hashes anything: it is a label: what it is worth is what the hold of that sum in a sandbox is worth. -/
noncomputable def Tryd.pinned : Pinned := { name := "ytalnmhlfjdocfaadoor", sum := "de93c7b36b3db118d95d11ad729996064baab2e59827531f2f9ac9130197b3c2", checked := Tryd.checked }
namespace Rows
def none {H : Type} : Left H := { results := [], args := [] }

/- WHAT THE LISTED PACKAGE-LEVEL VARIABLES READ AS WHEN THE CALL BEGINS. Each datum BY PROGRAM (the guide's laid-datum.mjs) off the statement by which the dump's own 'gosem.cut.vars' lays the variable. In a bare row this is a premise. The card (YtalnmhlfjdocfaaDoorCards.lean) ties it to the program's text. -/
def laid_pleach_crc_table {H : Type} : DataW H := .agg [.lit (.int .u32 0), .lit (.int .u32 498536548), .lit (.int .u32 997073096), .lit (.int .u32 651767980), .lit (.int .u32 1994146192), .lit (.int .u32 1802195444), .lit (.int .u32 1303535960), .lit (.int .u32 1342533948), .lit (.int .u32 3988292384), .lit (.int .u32 4027552580), .lit (.int .u32 3604390888), .lit (.int .u32 3412177804), .lit (.int .u32 2607071920), .lit (.int .u32 2262029012), .lit (.int .u32 2685067896), .lit (.int .u32 3183342108)]
def laid_unicode_utf8_acceptRanges {H : Type} : DataW H := .agg [.agg [.lit (.int .u8 128), .lit (.int .u8 191)], .agg [.lit (.int .u8 160), .lit (.int .u8 191)], .agg [.lit (.int .u8 128), .lit (.int .u8 159)], .agg [.lit (.int .u8 144), .lit (.int .u8 191)], .agg [.lit (.int .u8 128), .lit (.int .u8 143)], .agg [.lit (.int .u8 0), .lit (.int .u8 0)], .agg [.lit (.int .u8 0), .lit (.int .u8 0)], .agg [.lit (.int .u8 0), .lit (.int .u8 0)], .agg [.lit (.int .u8 0), .lit (.int .u8 0)], .agg [.lit (.int .u8 0), .lit (.int .u8 0)], .agg [.lit (.int .u8 0), .lit (.int .u8 0)], .agg [.lit (.int .u8 0), .lit (.int .u8 0)], .agg [.lit (.int .u8 0), .lit (.int .u8 0)], .agg [.lit (.int .u8 0), .lit (.int .u8 0)], .agg [.lit (.int .u8 0), .lit (.int .u8 0)], .agg [.lit (.int .u8 0), .lit (.int .u8 0)]]
/-- One of Go's own tables, pinned by name: the form's constant. -/
def laid_unicode_utf8_first : DataW Unit := Go.Pinned.utf8First

/-- 'pleachlaw15.LogNobody': WHATEVER THE INPUT: true; the input reads as it did. -/
def logNobodySpec : ChangeSpec := { name := "logNobody", fn := fun _ => fun
  | [d1, d2, d3] => { results := [.lit (.bool true)], args := [d1, d2, d3] }
  | _ => none }
def logNobodyRow : OpenClaim := { program := "ytalnmhlfjdocfaadoor", sum := "de93c7b36b3db118d95d11ad729996064baab2e59827531f2f9ac9130197b3c2", func := "pleach/pleachlaw15.LogNobody", spec := "logNobody", inPlace := ["internal/abi.NoEscape", "internal/bytealg.MakeNoZero"], unfollowed := true, recurses := true, named := ["pleach/crc.table"], apart := false, laid := [("pleach/crc.table", laid_pleach_crc_table)] }
def LogNobodySaid : Prop := logNobodyRow.holds Tryd.pinned (OpenSpec.ofChange logNobodySpec)

/-- ITS FALSE NEIGHBOUR: 'it returns false'. Refute it at one input. -/
def logNobodyWrong : ChangeSpec := { name := "logNobody", fn := fun _ => fun
  | [d1, d2, d3] => { results := [.lit (.bool false)], args := [d1, d2, d3] }
  | _ => none }
def LogNobodyWrongFalsely : Prop := logNobodyRow.holds Tryd.pinned (OpenSpec.ofChange logNobodyWrong)

/-- 'pleachlaw08.SeatTakes': WHATEVER THE INPUT: true; the input reads as it did. -/
def seatTakesSpec : ChangeSpec := { name := "seatTakes", fn := fun _ => fun
  | [d1, d2] => { results := [.lit (.bool true)], args := [d1, d2] }
  | _ => none }
def seatTakesRow : OpenClaim := { program := "ytalnmhlfjdocfaadoor", sum := "de93c7b36b3db118d95d11ad729996064baab2e59827531f2f9ac9130197b3c2", func := "pleach/pleachlaw08.SeatTakes", spec := "seatTakes", inPlace := ["internal/abi.NoEscape", "internal/bytealg.MakeNoZero", "internal/bytealg.IndexByteString", "internal/bytealg.IndexString"], unfollowed := true, recurses := true, named := ["pleach/crc.table", "unicode/utf8.first", "unicode/utf8.acceptRanges", "internal/bytealg.MaxLen"], apart := false, laid := [("pleach/crc.table", laid_pleach_crc_table), ("unicode/utf8.acceptRanges", laid_unicode_utf8_acceptRanges), ("unicode/utf8.first", laid_unicode_utf8_first)] }
def SeatTakesSaid : Prop := seatTakesRow.holds Tryd.pinned (OpenSpec.ofChange seatTakesSpec)

/-- ITS FALSE NEIGHBOUR: 'it returns false'. Refute it at one input. -/
def seatTakesWrong : ChangeSpec := { name := "seatTakes", fn := fun _ => fun
  | [d1, d2] => { results := [.lit (.bool false)], args := [d1, d2] }
  | _ => none }
def SeatTakesWrongFalsely : Prop := seatTakesRow.holds Tryd.pinned (OpenSpec.ofChange seatTakesWrong)

/-- 'pleachlaw08.SeatFull': WHATEVER THE INPUT: true; the input reads as it did. -/
def seatFullSpec : ChangeSpec := { name := "seatFull", fn := fun _ => fun
  | [d] => { results := [.lit (.bool true)], args := [d] }
  | _ => none }
def seatFullRow : OpenClaim := { program := "ytalnmhlfjdocfaadoor", sum := "de93c7b36b3db118d95d11ad729996064baab2e59827531f2f9ac9130197b3c2", func := "pleach/pleachlaw08.SeatFull", spec := "seatFull", inPlace := ["internal/abi.NoEscape", "internal/bytealg.MakeNoZero", "internal/bytealg.IndexByteString", "internal/bytealg.IndexString"], unfollowed := true, recurses := true, named := ["pleach/crc.table", "unicode/utf8.first", "unicode/utf8.acceptRanges", "internal/bytealg.MaxLen"], apart := false, laid := [("pleach/crc.table", laid_pleach_crc_table), ("unicode/utf8.acceptRanges", laid_unicode_utf8_acceptRanges), ("unicode/utf8.first", laid_unicode_utf8_first)] }
def SeatFullSaid : Prop := seatFullRow.holds Tryd.pinned (OpenSpec.ofChange seatFullSpec)

/-- ITS FALSE NEIGHBOUR: 'it returns false'. Refute it at one input. -/
def seatFullWrong : ChangeSpec := { name := "seatFull", fn := fun _ => fun
  | [d] => { results := [.lit (.bool false)], args := [d] }
  | _ => none }
def SeatFullWrongFalsely : Prop := seatFullRow.holds Tryd.pinned (OpenSpec.ofChange seatFullWrong)

/-- 'pleachlaw08.SeatBack': WHATEVER THE INPUT: true; the input reads as it did. -/
def seatBackSpec : ChangeSpec := { name := "seatBack", fn := fun _ => fun
  | [d1, d2] => { results := [.lit (.bool true)], args := [d1, d2] }
  | _ => none }
def seatBackRow : OpenClaim := { program := "ytalnmhlfjdocfaadoor", sum := "de93c7b36b3db118d95d11ad729996064baab2e59827531f2f9ac9130197b3c2", func := "pleach/pleachlaw08.SeatBack", spec := "seatBack", inPlace := ["internal/abi.NoEscape", "internal/bytealg.MakeNoZero", "internal/bytealg.IndexByteString", "internal/bytealg.IndexString"], unfollowed := true, recurses := true, named := ["pleach/crc.table", "unicode/utf8.first", "unicode/utf8.acceptRanges", "internal/bytealg.MaxLen"], apart := false, laid := [("pleach/crc.table", laid_pleach_crc_table), ("unicode/utf8.acceptRanges", laid_unicode_utf8_acceptRanges), ("unicode/utf8.first", laid_unicode_utf8_first)] }
def SeatBackSaid : Prop := seatBackRow.holds Tryd.pinned (OpenSpec.ofChange seatBackSpec)

/-- ITS FALSE NEIGHBOUR: 'it returns false'. Refute it at one input. -/
def seatBackWrong : ChangeSpec := { name := "seatBack", fn := fun _ => fun
  | [d1, d2] => { results := [.lit (.bool false)], args := [d1, d2] }
  | _ => none }
def SeatBackWrongFalsely : Prop := seatBackRow.holds Tryd.pinned (OpenSpec.ofChange seatBackWrong)

/-- 'pleachlaw08.SeatPuts': WHATEVER THE INPUT: true; the input reads as it did. -/
def seatPutsSpec : ChangeSpec := { name := "seatPuts", fn := fun _ => fun
  | [d1, d2, d3] => { results := [.lit (.bool true)], args := [d1, d2, d3] }
  | _ => none }
def seatPutsRow : OpenClaim := { program := "ytalnmhlfjdocfaadoor", sum := "de93c7b36b3db118d95d11ad729996064baab2e59827531f2f9ac9130197b3c2", func := "pleach/pleachlaw08.SeatPuts", spec := "seatPuts", inPlace := ["internal/abi.NoEscape", "internal/bytealg.MakeNoZero", "internal/bytealg.IndexByteString", "internal/bytealg.IndexString"], unfollowed := true, recurses := true, named := ["pleach/crc.table", "unicode/utf8.first", "unicode/utf8.acceptRanges", "internal/bytealg.MaxLen"], apart := false, laid := [("pleach/crc.table", laid_pleach_crc_table), ("unicode/utf8.acceptRanges", laid_unicode_utf8_acceptRanges), ("unicode/utf8.first", laid_unicode_utf8_first)] }
def SeatPutsSaid : Prop := seatPutsRow.holds Tryd.pinned (OpenSpec.ofChange seatPutsSpec)

/-- ITS FALSE NEIGHBOUR: 'it returns false'. Refute it at one input. -/
def seatPutsWrong : ChangeSpec := { name := "seatPuts", fn := fun _ => fun
  | [d1, d2, d3] => { results := [.lit (.bool false)], args := [d1, d2, d3] }
  | _ => none }
def SeatPutsWrongFalsely : Prop := seatPutsRow.holds Tryd.pinned (OpenSpec.ofChange seatPutsWrong)

/-- 'pleachlaw08.SeatLater': WHATEVER THE INPUT: true; the input reads as it did. -/
def seatLaterSpec : ChangeSpec := { name := "seatLater", fn := fun _ => fun
  | [d1, d2, d3, d4, d5] => { results := [.lit (.bool true)], args := [d1, d2, d3, d4, d5] }
  | _ => none }
def seatLaterRow : OpenClaim := { program := "ytalnmhlfjdocfaadoor", sum := "de93c7b36b3db118d95d11ad729996064baab2e59827531f2f9ac9130197b3c2", func := "pleach/pleachlaw08.SeatLater", spec := "seatLater", inPlace := ["internal/abi.NoEscape", "internal/bytealg.MakeNoZero", "internal/bytealg.IndexByteString", "internal/bytealg.IndexString"], unfollowed := true, recurses := true, named := ["pleach/crc.table", "unicode/utf8.first", "unicode/utf8.acceptRanges", "internal/bytealg.MaxLen"], apart := false, laid := [("pleach/crc.table", laid_pleach_crc_table), ("unicode/utf8.acceptRanges", laid_unicode_utf8_acceptRanges), ("unicode/utf8.first", laid_unicode_utf8_first)] }
def SeatLaterSaid : Prop := seatLaterRow.holds Tryd.pinned (OpenSpec.ofChange seatLaterSpec)

/-- ITS FALSE NEIGHBOUR: 'it returns false'. Refute it at one input. -/
def seatLaterWrong : ChangeSpec := { name := "seatLater", fn := fun _ => fun
  | [d1, d2, d3, d4, d5] => { results := [.lit (.bool false)], args := [d1, d2, d3, d4, d5] }
  | _ => none }
def SeatLaterWrongFalsely : Prop := seatLaterRow.holds Tryd.pinned (OpenSpec.ofChange seatLaterWrong)

/-- 'pleachlaw10.EntryPuts': WHATEVER THE INPUT: true; the input reads as it did. -/
def entryPutsSpec : ChangeSpec := { name := "entryPuts", fn := fun _ => fun
  | [d] => { results := [.lit (.bool true)], args := [d] }
  | _ => none }
def entryPutsRow : OpenClaim := { program := "ytalnmhlfjdocfaadoor", sum := "de93c7b36b3db118d95d11ad729996064baab2e59827531f2f9ac9130197b3c2", func := "pleach/pleachlaw10.EntryPuts", spec := "entryPuts", inPlace := ["internal/abi.NoEscape", "internal/bytealg.MakeNoZero", "internal/bytealg.IndexByteString", "internal/bytealg.IndexString"], unfollowed := true, recurses := true, named := ["pleach/crc.table", "unicode/utf8.first", "unicode/utf8.acceptRanges", "internal/bytealg.MaxLen"], apart := false, laid := [("pleach/crc.table", laid_pleach_crc_table), ("unicode/utf8.acceptRanges", laid_unicode_utf8_acceptRanges), ("unicode/utf8.first", laid_unicode_utf8_first)] }
def EntryPutsSaid : Prop := entryPutsRow.holds Tryd.pinned (OpenSpec.ofChange entryPutsSpec)

/-- ITS FALSE NEIGHBOUR: 'it returns false'. Refute it at one input. -/
def entryPutsWrong : ChangeSpec := { name := "entryPuts", fn := fun _ => fun
  | [d] => { results := [.lit (.bool false)], args := [d] }
  | _ => none }
def EntryPutsWrongFalsely : Prop := entryPutsRow.holds Tryd.pinned (OpenSpec.ofChange entryPutsWrong)

/-- 'pleachlaw10.EntryBack': WHATEVER THE INPUT: true; the input reads as it did. -/
def entryBackSpec : ChangeSpec := { name := "entryBack", fn := fun _ => fun
  | [d1, d2] => { results := [.lit (.bool true)], args := [d1, d2] }
  | _ => none }
def entryBackRow : OpenClaim := { program := "ytalnmhlfjdocfaadoor", sum := "de93c7b36b3db118d95d11ad729996064baab2e59827531f2f9ac9130197b3c2", func := "pleach/pleachlaw10.EntryBack", spec := "entryBack", inPlace := ["internal/abi.NoEscape", "internal/bytealg.MakeNoZero", "internal/bytealg.IndexByteString", "internal/bytealg.IndexString"], unfollowed := true, recurses := true, named := ["pleach/crc.table", "unicode/utf8.first", "unicode/utf8.acceptRanges", "internal/bytealg.MaxLen"], apart := false, laid := [("pleach/crc.table", laid_pleach_crc_table), ("unicode/utf8.acceptRanges", laid_unicode_utf8_acceptRanges), ("unicode/utf8.first", laid_unicode_utf8_first)] }
def EntryBackSaid : Prop := entryBackRow.holds Tryd.pinned (OpenSpec.ofChange entryBackSpec)

/-- ITS FALSE NEIGHBOUR: 'it returns false'. Refute it at one input. -/
def entryBackWrong : ChangeSpec := { name := "entryBack", fn := fun _ => fun
  | [d1, d2] => { results := [.lit (.bool false)], args := [d1, d2] }
  | _ => none }
def EntryBackWrongFalsely : Prop := entryBackRow.holds Tryd.pinned (OpenSpec.ofChange entryBackWrong)

/-- 'pleachlaw10.EntryTakes': WHATEVER THE INPUT: true; the input reads as it did. -/
def entryTakesSpec : ChangeSpec := { name := "entryTakes", fn := fun _ => fun
  | [d1, d2, d3] => { results := [.lit (.bool true)], args := [d1, d2, d3] }
  | _ => none }
def entryTakesRow : OpenClaim := { program := "ytalnmhlfjdocfaadoor", sum := "de93c7b36b3db118d95d11ad729996064baab2e59827531f2f9ac9130197b3c2", func := "pleach/pleachlaw10.EntryTakes", spec := "entryTakes", inPlace := ["internal/abi.NoEscape", "internal/bytealg.MakeNoZero", "internal/bytealg.IndexByteString", "internal/bytealg.IndexString"], unfollowed := true, recurses := true, named := ["pleach/crc.table", "unicode/utf8.first", "unicode/utf8.acceptRanges", "internal/bytealg.MaxLen"], apart := false, laid := [("pleach/crc.table", laid_pleach_crc_table), ("unicode/utf8.acceptRanges", laid_unicode_utf8_acceptRanges), ("unicode/utf8.first", laid_unicode_utf8_first)] }
def EntryTakesSaid : Prop := entryTakesRow.holds Tryd.pinned (OpenSpec.ofChange entryTakesSpec)

/-- ITS FALSE NEIGHBOUR: 'it returns false'. Refute it at one input. -/
def entryTakesWrong : ChangeSpec := { name := "entryTakes", fn := fun _ => fun
  | [d1, d2, d3] => { results := [.lit (.bool false)], args := [d1, d2, d3] }
  | _ => none }
def EntryTakesWrongFalsely : Prop := entryTakesRow.holds Tryd.pinned (OpenSpec.ofChange entryTakesWrong)

/-- 'pleachlaw38.JournalNobody': WHATEVER THE INPUT: true; the input reads as it did. -/
def journalNobodySpec : ChangeSpec := { name := "journalNobody", fn := fun _ => fun
  | [d1, d2, d3, d4] => { results := [.lit (.bool true)], args := [d1, d2, d3, d4] }
  | _ => none }
def journalNobodyRow : OpenClaim := { program := "ytalnmhlfjdocfaadoor", sum := "de93c7b36b3db118d95d11ad729996064baab2e59827531f2f9ac9130197b3c2", func := "pleach/pleachlaw38.JournalNobody", spec := "journalNobody", inPlace := ["internal/bytealg.IndexByteString", "internal/bytealg.IndexString", "internal/abi.NoEscape", "internal/bytealg.MakeNoZero"], unfollowed := true, recurses := true, named := ["unicode/utf8.first", "unicode/utf8.acceptRanges", "pleach/crc.table", "internal/bytealg.MaxLen"], apart := false, laid := [("pleach/crc.table", laid_pleach_crc_table), ("unicode/utf8.acceptRanges", laid_unicode_utf8_acceptRanges), ("unicode/utf8.first", laid_unicode_utf8_first)] }
def JournalNobodySaid : Prop := journalNobodyRow.holds Tryd.pinned (OpenSpec.ofChange journalNobodySpec)

/-- ITS FALSE NEIGHBOUR: 'it returns false'. Refute it at one input. -/
def journalNobodyWrong : ChangeSpec := { name := "journalNobody", fn := fun _ => fun
  | [d1, d2, d3, d4] => { results := [.lit (.bool false)], args := [d1, d2, d3, d4] }
  | _ => none }
def JournalNobodyWrongFalsely : Prop := journalNobodyRow.holds Tryd.pinned (OpenSpec.ofChange journalNobodyWrong)

/-- 'pleachlaw38.JournalTells': WHATEVER THE INPUT: true; the input reads as it did. -/
def journalTellsSpec : ChangeSpec := { name := "journalTells", fn := fun _ => fun
  | [d1, d2, d3] => { results := [.lit (.bool true)], args := [d1, d2, d3] }
  | _ => none }
def journalTellsRow : OpenClaim := { program := "ytalnmhlfjdocfaadoor", sum := "de93c7b36b3db118d95d11ad729996064baab2e59827531f2f9ac9130197b3c2", func := "pleach/pleachlaw38.JournalTells", spec := "journalTells", inPlace := ["internal/abi.NoEscape", "internal/bytealg.MakeNoZero", "internal/bytealg.IndexByteString", "internal/bytealg.IndexString"], unfollowed := true, recurses := true, named := ["unicode/utf8.first", "unicode/utf8.acceptRanges", "pleach/crc.table", "internal/bytealg.MaxLen"], apart := false, laid := [("pleach/crc.table", laid_pleach_crc_table), ("unicode/utf8.acceptRanges", laid_unicode_utf8_acceptRanges), ("unicode/utf8.first", laid_unicode_utf8_first)] }
def JournalTellsSaid : Prop := journalTellsRow.holds Tryd.pinned (OpenSpec.ofChange journalTellsSpec)

/-- ITS FALSE NEIGHBOUR: 'it returns false'. Refute it at one input. -/
def journalTellsWrong : ChangeSpec := { name := "journalTells", fn := fun _ => fun
  | [d1, d2, d3] => { results := [.lit (.bool false)], args := [d1, d2, d3] }
  | _ => none }
def JournalTellsWrongFalsely : Prop := journalTellsRow.holds Tryd.pinned (OpenSpec.ofChange journalTellsWrong)

/- THE SECOND FORM. 'bulk': how many values and letters a reading holds, each counted each time it is reached (what is shared counts as often as it is met; a slice's spare places count too). A statement '..UptoSaid' is the law's where the arguments, and the package variables that the reading takes, are together of bulk at most 1048576: NARROWER than '..Said'. Prove '..Said' where nothing that the law and all that it calls make is longer than what came in: it says more and counts as full. Else prove '..UptoSaid'. A law counts once. -/
mutual
def uptoBulk {H : Type} : DataW H → Nat
  | .lit (.string bytes) => bytes.length + 1
  | .lit _ => 1
  | .nil => 1
  | .ptr d => uptoBulk d + 1
  | .slice elems spare => uptoBulkAll elems + uptoBulkAll spare + 1
  | .agg parts => uptoBulkAll parts + 1
  | .iface _ d => uptoBulk d + 1
  | .map entries => uptoBulkEntries entries + 1
  | .held _ => 1
def uptoBulkAll {H : Type} : List (DataW H) → Nat
  | [] => 0
  | d :: r => uptoBulk d + uptoBulkAll r
def uptoBulkEntries {H : Type} : List (Lit × DataW H) → Nat
  | [] => 0
  | x :: r => uptoBulkEntry x + uptoBulkEntries r
def uptoBulkEntry {H : Type} : Lit × DataW H → Nat
  | (.string bytes, d) => bytes.length + uptoBulk d + 1
  | (_, d) => uptoBulk d + 1
 end
def uptoSmall : (H : Type) → List (DataW H) → Bool := fun _ ds => decide (uptoBulkAll ds ≤ 1048576)
def OpenSpec.upto (s : _root_.Go.ChangeSpec) : _root_.Go.OpenSpec := { _root_.Go.OpenSpec.ofChange s with cond := some uptoSmall }

/-- 'pleachlaw15.LogNobody', WHERE WHAT IT READS IS OF BULK AT MOST 1048576: true; the input reads as it did. -/
def logNobodyUptoRow : OpenClaim := { program := "ytalnmhlfjdocfaadoor", sum := "de93c7b36b3db118d95d11ad729996064baab2e59827531f2f9ac9130197b3c2", func := "pleach/pleachlaw15.LogNobody", spec := "logNobody", inPlace := ["internal/abi.NoEscape", "internal/bytealg.MakeNoZero"], unfollowed := true, recurses := true, named := ["pleach/crc.table"], apart := false, laid := [("pleach/crc.table", laid_pleach_crc_table)], narrowed := true }
def LogNobodyUptoSaid : Prop := logNobodyUptoRow.holds Tryd.pinned (OpenSpec.upto logNobodySpec)

/-- 'pleachlaw08.SeatTakes', WHERE WHAT IT READS IS OF BULK AT MOST 1048576: true; the input reads as it did. -/
def seatTakesUptoRow : OpenClaim := { program := "ytalnmhlfjdocfaadoor", sum := "de93c7b36b3db118d95d11ad729996064baab2e59827531f2f9ac9130197b3c2", func := "pleach/pleachlaw08.SeatTakes", spec := "seatTakes", inPlace := ["internal/abi.NoEscape", "internal/bytealg.MakeNoZero", "internal/bytealg.IndexByteString", "internal/bytealg.IndexString"], unfollowed := true, recurses := true, named := ["pleach/crc.table", "unicode/utf8.first", "unicode/utf8.acceptRanges", "internal/bytealg.MaxLen"], apart := false, laid := [("pleach/crc.table", laid_pleach_crc_table), ("unicode/utf8.acceptRanges", laid_unicode_utf8_acceptRanges), ("unicode/utf8.first", laid_unicode_utf8_first)], narrowed := true }
def SeatTakesUptoSaid : Prop := seatTakesUptoRow.holds Tryd.pinned (OpenSpec.upto seatTakesSpec)

/-- 'pleachlaw08.SeatFull', WHERE WHAT IT READS IS OF BULK AT MOST 1048576: true; the input reads as it did. -/
def seatFullUptoRow : OpenClaim := { program := "ytalnmhlfjdocfaadoor", sum := "de93c7b36b3db118d95d11ad729996064baab2e59827531f2f9ac9130197b3c2", func := "pleach/pleachlaw08.SeatFull", spec := "seatFull", inPlace := ["internal/abi.NoEscape", "internal/bytealg.MakeNoZero", "internal/bytealg.IndexByteString", "internal/bytealg.IndexString"], unfollowed := true, recurses := true, named := ["pleach/crc.table", "unicode/utf8.first", "unicode/utf8.acceptRanges", "internal/bytealg.MaxLen"], apart := false, laid := [("pleach/crc.table", laid_pleach_crc_table), ("unicode/utf8.acceptRanges", laid_unicode_utf8_acceptRanges), ("unicode/utf8.first", laid_unicode_utf8_first)], narrowed := true }
def SeatFullUptoSaid : Prop := seatFullUptoRow.holds Tryd.pinned (OpenSpec.upto seatFullSpec)

/-- 'pleachlaw08.SeatBack', WHERE WHAT IT READS IS OF BULK AT MOST 1048576: true; the input reads as it did. -/
def seatBackUptoRow : OpenClaim := { program := "ytalnmhlfjdocfaadoor", sum := "de93c7b36b3db118d95d11ad729996064baab2e59827531f2f9ac9130197b3c2", func := "pleach/pleachlaw08.SeatBack", spec := "seatBack", inPlace := ["internal/abi.NoEscape", "internal/bytealg.MakeNoZero", "internal/bytealg.IndexByteString", "internal/bytealg.IndexString"], unfollowed := true, recurses := true, named := ["pleach/crc.table", "unicode/utf8.first", "unicode/utf8.acceptRanges", "internal/bytealg.MaxLen"], apart := false, laid := [("pleach/crc.table", laid_pleach_crc_table), ("unicode/utf8.acceptRanges", laid_unicode_utf8_acceptRanges), ("unicode/utf8.first", laid_unicode_utf8_first)], narrowed := true }
def SeatBackUptoSaid : Prop := seatBackUptoRow.holds Tryd.pinned (OpenSpec.upto seatBackSpec)

/-- 'pleachlaw08.SeatPuts', WHERE WHAT IT READS IS OF BULK AT MOST 1048576: true; the input reads as it did. -/
def seatPutsUptoRow : OpenClaim := { program := "ytalnmhlfjdocfaadoor", sum := "de93c7b36b3db118d95d11ad729996064baab2e59827531f2f9ac9130197b3c2", func := "pleach/pleachlaw08.SeatPuts", spec := "seatPuts", inPlace := ["internal/abi.NoEscape", "internal/bytealg.MakeNoZero", "internal/bytealg.IndexByteString", "internal/bytealg.IndexString"], unfollowed := true, recurses := true, named := ["pleach/crc.table", "unicode/utf8.first", "unicode/utf8.acceptRanges", "internal/bytealg.MaxLen"], apart := false, laid := [("pleach/crc.table", laid_pleach_crc_table), ("unicode/utf8.acceptRanges", laid_unicode_utf8_acceptRanges), ("unicode/utf8.first", laid_unicode_utf8_first)], narrowed := true }
def SeatPutsUptoSaid : Prop := seatPutsUptoRow.holds Tryd.pinned (OpenSpec.upto seatPutsSpec)

/-- 'pleachlaw08.SeatLater', WHERE WHAT IT READS IS OF BULK AT MOST 1048576: true; the input reads as it did. -/
def seatLaterUptoRow : OpenClaim := { program := "ytalnmhlfjdocfaadoor", sum := "de93c7b36b3db118d95d11ad729996064baab2e59827531f2f9ac9130197b3c2", func := "pleach/pleachlaw08.SeatLater", spec := "seatLater", inPlace := ["internal/abi.NoEscape", "internal/bytealg.MakeNoZero", "internal/bytealg.IndexByteString", "internal/bytealg.IndexString"], unfollowed := true, recurses := true, named := ["pleach/crc.table", "unicode/utf8.first", "unicode/utf8.acceptRanges", "internal/bytealg.MaxLen"], apart := false, laid := [("pleach/crc.table", laid_pleach_crc_table), ("unicode/utf8.acceptRanges", laid_unicode_utf8_acceptRanges), ("unicode/utf8.first", laid_unicode_utf8_first)], narrowed := true }
def SeatLaterUptoSaid : Prop := seatLaterUptoRow.holds Tryd.pinned (OpenSpec.upto seatLaterSpec)

/-- 'pleachlaw10.EntryPuts', WHERE WHAT IT READS IS OF BULK AT MOST 1048576: true; the input reads as it did. -/
def entryPutsUptoRow : OpenClaim := { program := "ytalnmhlfjdocfaadoor", sum := "de93c7b36b3db118d95d11ad729996064baab2e59827531f2f9ac9130197b3c2", func := "pleach/pleachlaw10.EntryPuts", spec := "entryPuts", inPlace := ["internal/abi.NoEscape", "internal/bytealg.MakeNoZero", "internal/bytealg.IndexByteString", "internal/bytealg.IndexString"], unfollowed := true, recurses := true, named := ["pleach/crc.table", "unicode/utf8.first", "unicode/utf8.acceptRanges", "internal/bytealg.MaxLen"], apart := false, laid := [("pleach/crc.table", laid_pleach_crc_table), ("unicode/utf8.acceptRanges", laid_unicode_utf8_acceptRanges), ("unicode/utf8.first", laid_unicode_utf8_first)], narrowed := true }
def EntryPutsUptoSaid : Prop := entryPutsUptoRow.holds Tryd.pinned (OpenSpec.upto entryPutsSpec)

/-- 'pleachlaw10.EntryBack', WHERE WHAT IT READS IS OF BULK AT MOST 1048576: true; the input reads as it did. -/
def entryBackUptoRow : OpenClaim := { program := "ytalnmhlfjdocfaadoor", sum := "de93c7b36b3db118d95d11ad729996064baab2e59827531f2f9ac9130197b3c2", func := "pleach/pleachlaw10.EntryBack", spec := "entryBack", inPlace := ["internal/abi.NoEscape", "internal/bytealg.MakeNoZero", "internal/bytealg.IndexByteString", "internal/bytealg.IndexString"], unfollowed := true, recurses := true, named := ["pleach/crc.table", "unicode/utf8.first", "unicode/utf8.acceptRanges", "internal/bytealg.MaxLen"], apart := false, laid := [("pleach/crc.table", laid_pleach_crc_table), ("unicode/utf8.acceptRanges", laid_unicode_utf8_acceptRanges), ("unicode/utf8.first", laid_unicode_utf8_first)], narrowed := true }
def EntryBackUptoSaid : Prop := entryBackUptoRow.holds Tryd.pinned (OpenSpec.upto entryBackSpec)

/-- 'pleachlaw10.EntryTakes', WHERE WHAT IT READS IS OF BULK AT MOST 1048576: true; the input reads as it did. -/
def entryTakesUptoRow : OpenClaim := { program := "ytalnmhlfjdocfaadoor", sum := "de93c7b36b3db118d95d11ad729996064baab2e59827531f2f9ac9130197b3c2", func := "pleach/pleachlaw10.EntryTakes", spec := "entryTakes", inPlace := ["internal/abi.NoEscape", "internal/bytealg.MakeNoZero", "internal/bytealg.IndexByteString", "internal/bytealg.IndexString"], unfollowed := true, recurses := true, named := ["pleach/crc.table", "unicode/utf8.first", "unicode/utf8.acceptRanges", "internal/bytealg.MaxLen"], apart := false, laid := [("pleach/crc.table", laid_pleach_crc_table), ("unicode/utf8.acceptRanges", laid_unicode_utf8_acceptRanges), ("unicode/utf8.first", laid_unicode_utf8_first)], narrowed := true }
def EntryTakesUptoSaid : Prop := entryTakesUptoRow.holds Tryd.pinned (OpenSpec.upto entryTakesSpec)

/-- 'pleachlaw38.JournalNobody', WHERE WHAT IT READS IS OF BULK AT MOST 1048576: true; the input reads as it did. -/
def journalNobodyUptoRow : OpenClaim := { program := "ytalnmhlfjdocfaadoor", sum := "de93c7b36b3db118d95d11ad729996064baab2e59827531f2f9ac9130197b3c2", func := "pleach/pleachlaw38.JournalNobody", spec := "journalNobody", inPlace := ["internal/bytealg.IndexByteString", "internal/bytealg.IndexString", "internal/abi.NoEscape", "internal/bytealg.MakeNoZero"], unfollowed := true, recurses := true, named := ["unicode/utf8.first", "unicode/utf8.acceptRanges", "pleach/crc.table", "internal/bytealg.MaxLen"], apart := false, laid := [("pleach/crc.table", laid_pleach_crc_table), ("unicode/utf8.acceptRanges", laid_unicode_utf8_acceptRanges), ("unicode/utf8.first", laid_unicode_utf8_first)], narrowed := true }
def JournalNobodyUptoSaid : Prop := journalNobodyUptoRow.holds Tryd.pinned (OpenSpec.upto journalNobodySpec)

/-- 'pleachlaw38.JournalTells', WHERE WHAT IT READS IS OF BULK AT MOST 1048576: true; the input reads as it did. -/
def journalTellsUptoRow : OpenClaim := { program := "ytalnmhlfjdocfaadoor", sum := "de93c7b36b3db118d95d11ad729996064baab2e59827531f2f9ac9130197b3c2", func := "pleach/pleachlaw38.JournalTells", spec := "journalTells", inPlace := ["internal/abi.NoEscape", "internal/bytealg.MakeNoZero", "internal/bytealg.IndexByteString", "internal/bytealg.IndexString"], unfollowed := true, recurses := true, named := ["unicode/utf8.first", "unicode/utf8.acceptRanges", "pleach/crc.table", "internal/bytealg.MaxLen"], apart := false, laid := [("pleach/crc.table", laid_pleach_crc_table), ("unicode/utf8.acceptRanges", laid_unicode_utf8_acceptRanges), ("unicode/utf8.first", laid_unicode_utf8_first)], narrowed := true }
def JournalTellsUptoSaid : Prop := journalTellsUptoRow.holds Tryd.pinned (OpenSpec.upto journalTellsSpec)

end Rows
end Go.Proofs.YtalnmhlfjdocfaaDoor
