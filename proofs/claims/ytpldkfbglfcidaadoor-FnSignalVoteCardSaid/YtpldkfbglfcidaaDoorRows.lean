/-
  NARROWER THAN 'FOR EVERY INPUT', by the rows' own cells (each row's printed sentence says how): FnLetters: laid · FnExactSignalValid: laid · FnExactSignalFar: laid · FnExactSignalVote: laid · FnExactSignalDrift: laid · FnExactSignalWide: laid · FnSignalVote: laid · FnExactSignalLevel: laid · FnExactSignalRead: laid.
  DERIVED. THE GIVEN ROWS OF THIS SEAT. 9 by the template 'for every input the law returns true; each argument reads behind the call as it read before'; 0 by the template 'total and deterministic' (their statements: YtpldkfbglfcidaaDoorTotals.lean).
  GIVEN WITH THE SEED: the statements are not yours to turn. If you find one false, say at which input.
  Laid BY PROGRAM, IN A SANDBOX (cutbox-rows.mjs): the forced cells as the released guide's own fill.sh prints them over the translation 3d5d6faa4f8bbc2b… (all of the seat's roots in one cut). By AI agents, Wed Nov 11 2026. No macro, syntax, notation, axiom, sorry.
-/
import Derived.Test.YtpldkfbglfcidaaDoorChecked
import GoSem.PinnedTables
import GoSem.Claim
import GoSem.ClaimJoined
import GoSem.ClaimMapViews
import Derived.JoinedTies
import Derived.KernelRfl
namespace Go.Proofs.YtpldkfbglfcidaaDoor
/- THE CELL 'sum', in the pinned program and in every row, IS THE sha256 OF THE DUMP (.gsa) THAT YtpldkfbglfcidaaDoorProg.lean LOADS. Nothing in Lean hashes anything: it is a label: what it is worth is what the hold of that sum in a sandbox is worth. -/
noncomputable def Tryd.pinned : Pinned := { name := "ytpldkfbglfcidaadoor", sum := "3d5d6faa4f8bbc2b325e2c7cd382994db819d961a08d379d1882108f6fc72ed6", checked := Tryd.checked }
namespace Rows
def none {H : Type} : Left H := { results := [], args := [] }

/- WHAT THE LISTED PACKAGE-LEVEL VARIABLES READ AS WHEN THE CALL BEGINS. Each datum BY PROGRAM (the guide's laid-datum.mjs) off the statement by which the dump's own 'gosem.cut.vars' lays the variable. In a bare row this is a premise. The card (YtpldkfbglfcidaaDoorCards.lean) ties it to the program's text. -/
def laid_unicode_utf8_acceptRanges {H : Type} : DataW H := .agg [.agg [.lit (.int .u8 128), .lit (.int .u8 191)], .agg [.lit (.int .u8 160), .lit (.int .u8 191)], .agg [.lit (.int .u8 128), .lit (.int .u8 159)], .agg [.lit (.int .u8 144), .lit (.int .u8 191)], .agg [.lit (.int .u8 128), .lit (.int .u8 143)], .agg [.lit (.int .u8 0), .lit (.int .u8 0)], .agg [.lit (.int .u8 0), .lit (.int .u8 0)], .agg [.lit (.int .u8 0), .lit (.int .u8 0)], .agg [.lit (.int .u8 0), .lit (.int .u8 0)], .agg [.lit (.int .u8 0), .lit (.int .u8 0)], .agg [.lit (.int .u8 0), .lit (.int .u8 0)], .agg [.lit (.int .u8 0), .lit (.int .u8 0)], .agg [.lit (.int .u8 0), .lit (.int .u8 0)], .agg [.lit (.int .u8 0), .lit (.int .u8 0)], .agg [.lit (.int .u8 0), .lit (.int .u8 0)], .agg [.lit (.int .u8 0), .lit (.int .u8 0)]]
/-- One of Go's own tables, pinned by name: the form's constant. -/
def laid_unicode_utf8_first : DataW Unit := Go.Pinned.utf8First

/-- 'laws.FnLetters': WHATEVER THE INPUT: true; the input reads as it did. -/
def fnLettersSpec : ChangeSpec := { name := "fnLetters", fn := fun _ => fun
  | [d] => { results := [.lit (.bool true)], args := [d] }
  | _ => none }
def fnLettersRow : OpenClaim := { program := "ytpldkfbglfcidaadoor", sum := "3d5d6faa4f8bbc2b325e2c7cd382994db819d961a08d379d1882108f6fc72ed6", func := "loop.example/cableship/laws.FnLetters", spec := "fnLetters", inPlace := ["internal/bytealg.IndexByteString", "internal/bytealg.IndexString"], unfollowed := true, recurses := true, named := ["unicode/utf8.first", "unicode/utf8.acceptRanges", "internal/bytealg.MaxLen"], apart := false, laid := [("unicode/utf8.acceptRanges", laid_unicode_utf8_acceptRanges), ("unicode/utf8.first", laid_unicode_utf8_first)] }
def FnLettersSaid : Prop := fnLettersRow.holds Tryd.pinned (OpenSpec.ofChange fnLettersSpec)

/-- ITS FALSE NEIGHBOUR: 'it returns false'. Refute it at one input. -/
def fnLettersWrong : ChangeSpec := { name := "fnLetters", fn := fun _ => fun
  | [d] => { results := [.lit (.bool false)], args := [d] }
  | _ => none }
def FnLettersWrongFalsely : Prop := fnLettersRow.holds Tryd.pinned (OpenSpec.ofChange fnLettersWrong)

/-- 'laws.FnExactSignalValid': WHATEVER THE INPUT: true; the input reads as it did. -/
def fnExactSignalValidSpec : ChangeSpec := { name := "fnExactSignalValid", fn := fun _ => fun
  | [d] => { results := [.lit (.bool true)], args := [d] }
  | _ => none }
def fnExactSignalValidRow : OpenClaim := { program := "ytpldkfbglfcidaadoor", sum := "3d5d6faa4f8bbc2b325e2c7cd382994db819d961a08d379d1882108f6fc72ed6", func := "loop.example/cableship/laws.FnExactSignalValid", spec := "fnExactSignalValid", inPlace := ["internal/bytealg.IndexByteString", "internal/bytealg.IndexString"], named := ["unicode/utf8.first", "unicode/utf8.acceptRanges", "internal/bytealg.MaxLen"], apart := false, laid := [("unicode/utf8.acceptRanges", laid_unicode_utf8_acceptRanges), ("unicode/utf8.first", laid_unicode_utf8_first)] }
def FnExactSignalValidSaid : Prop := fnExactSignalValidRow.holds Tryd.pinned (OpenSpec.ofChange fnExactSignalValidSpec)

/-- ITS FALSE NEIGHBOUR: 'it returns false'. Refute it at one input. -/
def fnExactSignalValidWrong : ChangeSpec := { name := "fnExactSignalValid", fn := fun _ => fun
  | [d] => { results := [.lit (.bool false)], args := [d] }
  | _ => none }
def FnExactSignalValidWrongFalsely : Prop := fnExactSignalValidRow.holds Tryd.pinned (OpenSpec.ofChange fnExactSignalValidWrong)

/-- 'laws.FnExactSignalFar': WHATEVER THE INPUT: true; the input reads as it did. -/
def fnExactSignalFarSpec : ChangeSpec := { name := "fnExactSignalFar", fn := fun _ => fun
  | [d1, d2] => { results := [.lit (.bool true)], args := [d1, d2] }
  | _ => none }
def fnExactSignalFarRow : OpenClaim := { program := "ytpldkfbglfcidaadoor", sum := "3d5d6faa4f8bbc2b325e2c7cd382994db819d961a08d379d1882108f6fc72ed6", func := "loop.example/cableship/laws.FnExactSignalFar", spec := "fnExactSignalFar", inPlace := ["internal/bytealg.IndexByteString", "internal/bytealg.IndexString"], named := ["unicode/utf8.first", "unicode/utf8.acceptRanges", "internal/bytealg.MaxLen"], apart := false, laid := [("unicode/utf8.acceptRanges", laid_unicode_utf8_acceptRanges), ("unicode/utf8.first", laid_unicode_utf8_first)] }
def FnExactSignalFarSaid : Prop := fnExactSignalFarRow.holds Tryd.pinned (OpenSpec.ofChange fnExactSignalFarSpec)

/-- ITS FALSE NEIGHBOUR: 'it returns false'. Refute it at one input. -/
def fnExactSignalFarWrong : ChangeSpec := { name := "fnExactSignalFar", fn := fun _ => fun
  | [d1, d2] => { results := [.lit (.bool false)], args := [d1, d2] }
  | _ => none }
def FnExactSignalFarWrongFalsely : Prop := fnExactSignalFarRow.holds Tryd.pinned (OpenSpec.ofChange fnExactSignalFarWrong)

/-- 'laws.FnExactSignalVote': WHATEVER THE INPUT: true; the input reads as it did. -/
def fnExactSignalVoteSpec : ChangeSpec := { name := "fnExactSignalVote", fn := fun _ => fun
  | [d1, d2, d3] => { results := [.lit (.bool true)], args := [d1, d2, d3] }
  | _ => none }
def fnExactSignalVoteRow : OpenClaim := { program := "ytpldkfbglfcidaadoor", sum := "3d5d6faa4f8bbc2b325e2c7cd382994db819d961a08d379d1882108f6fc72ed6", func := "loop.example/cableship/laws.FnExactSignalVote", spec := "fnExactSignalVote", inPlace := ["internal/bytealg.IndexByteString", "internal/bytealg.IndexString"], named := ["unicode/utf8.first", "unicode/utf8.acceptRanges", "internal/bytealg.MaxLen"], apart := false, laid := [("unicode/utf8.acceptRanges", laid_unicode_utf8_acceptRanges), ("unicode/utf8.first", laid_unicode_utf8_first)] }
def FnExactSignalVoteSaid : Prop := fnExactSignalVoteRow.holds Tryd.pinned (OpenSpec.ofChange fnExactSignalVoteSpec)

/-- ITS FALSE NEIGHBOUR: 'it returns false'. Refute it at one input. -/
def fnExactSignalVoteWrong : ChangeSpec := { name := "fnExactSignalVote", fn := fun _ => fun
  | [d1, d2, d3] => { results := [.lit (.bool false)], args := [d1, d2, d3] }
  | _ => none }
def FnExactSignalVoteWrongFalsely : Prop := fnExactSignalVoteRow.holds Tryd.pinned (OpenSpec.ofChange fnExactSignalVoteWrong)

/-- 'laws.FnExactSignalDrift': WHATEVER THE INPUT: true; the input reads as it did. -/
def fnExactSignalDriftSpec : ChangeSpec := { name := "fnExactSignalDrift", fn := fun _ => fun
  | [d] => { results := [.lit (.bool true)], args := [d] }
  | _ => none }
def fnExactSignalDriftRow : OpenClaim := { program := "ytpldkfbglfcidaadoor", sum := "3d5d6faa4f8bbc2b325e2c7cd382994db819d961a08d379d1882108f6fc72ed6", func := "loop.example/cableship/laws.FnExactSignalDrift", spec := "fnExactSignalDrift", inPlace := ["internal/bytealg.IndexByteString", "internal/bytealg.IndexString"], named := ["unicode/utf8.first", "unicode/utf8.acceptRanges", "internal/bytealg.MaxLen"], apart := false, laid := [("unicode/utf8.acceptRanges", laid_unicode_utf8_acceptRanges), ("unicode/utf8.first", laid_unicode_utf8_first)] }
def FnExactSignalDriftSaid : Prop := fnExactSignalDriftRow.holds Tryd.pinned (OpenSpec.ofChange fnExactSignalDriftSpec)

/-- ITS FALSE NEIGHBOUR: 'it returns false'. Refute it at one input. -/
def fnExactSignalDriftWrong : ChangeSpec := { name := "fnExactSignalDrift", fn := fun _ => fun
  | [d] => { results := [.lit (.bool false)], args := [d] }
  | _ => none }
def FnExactSignalDriftWrongFalsely : Prop := fnExactSignalDriftRow.holds Tryd.pinned (OpenSpec.ofChange fnExactSignalDriftWrong)

/-- 'laws.FnExactSignalWide': WHATEVER THE INPUT: true; the input reads as it did. -/
def fnExactSignalWideSpec : ChangeSpec := { name := "fnExactSignalWide", fn := fun _ => fun
  | [d] => { results := [.lit (.bool true)], args := [d] }
  | _ => none }
def fnExactSignalWideRow : OpenClaim := { program := "ytpldkfbglfcidaadoor", sum := "3d5d6faa4f8bbc2b325e2c7cd382994db819d961a08d379d1882108f6fc72ed6", func := "loop.example/cableship/laws.FnExactSignalWide", spec := "fnExactSignalWide", inPlace := ["internal/bytealg.IndexByteString", "internal/bytealg.IndexString"], named := ["unicode/utf8.first", "unicode/utf8.acceptRanges", "internal/bytealg.MaxLen"], apart := false, laid := [("unicode/utf8.acceptRanges", laid_unicode_utf8_acceptRanges), ("unicode/utf8.first", laid_unicode_utf8_first)] }
def FnExactSignalWideSaid : Prop := fnExactSignalWideRow.holds Tryd.pinned (OpenSpec.ofChange fnExactSignalWideSpec)

/-- ITS FALSE NEIGHBOUR: 'it returns false'. Refute it at one input. -/
def fnExactSignalWideWrong : ChangeSpec := { name := "fnExactSignalWide", fn := fun _ => fun
  | [d] => { results := [.lit (.bool false)], args := [d] }
  | _ => none }
def FnExactSignalWideWrongFalsely : Prop := fnExactSignalWideRow.holds Tryd.pinned (OpenSpec.ofChange fnExactSignalWideWrong)

/-- 'laws.FnSignalVote': WHATEVER THE INPUT: true; the input reads as it did. -/
def fnSignalVoteSpec : ChangeSpec := { name := "fnSignalVote", fn := fun _ => fun
  | [d] => { results := [.lit (.bool true)], args := [d] }
  | _ => none }
def fnSignalVoteRow : OpenClaim := { program := "ytpldkfbglfcidaadoor", sum := "3d5d6faa4f8bbc2b325e2c7cd382994db819d961a08d379d1882108f6fc72ed6", func := "loop.example/cableship/laws.FnSignalVote", spec := "fnSignalVote", inPlace := ["internal/bytealg.IndexByteString", "internal/bytealg.IndexString"], named := ["unicode/utf8.first", "unicode/utf8.acceptRanges", "internal/bytealg.MaxLen"], apart := false, laid := [("unicode/utf8.acceptRanges", laid_unicode_utf8_acceptRanges), ("unicode/utf8.first", laid_unicode_utf8_first)] }
def FnSignalVoteSaid : Prop := fnSignalVoteRow.holds Tryd.pinned (OpenSpec.ofChange fnSignalVoteSpec)

/-- ITS FALSE NEIGHBOUR: 'it returns false'. Refute it at one input. -/
def fnSignalVoteWrong : ChangeSpec := { name := "fnSignalVote", fn := fun _ => fun
  | [d] => { results := [.lit (.bool false)], args := [d] }
  | _ => none }
def FnSignalVoteWrongFalsely : Prop := fnSignalVoteRow.holds Tryd.pinned (OpenSpec.ofChange fnSignalVoteWrong)

/-- 'laws.FnExactSignalLevel': WHATEVER THE INPUT: true; the input reads as it did. -/
def fnExactSignalLevelSpec : ChangeSpec := { name := "fnExactSignalLevel", fn := fun _ => fun
  | [d] => { results := [.lit (.bool true)], args := [d] }
  | _ => none }
def fnExactSignalLevelRow : OpenClaim := { program := "ytpldkfbglfcidaadoor", sum := "3d5d6faa4f8bbc2b325e2c7cd382994db819d961a08d379d1882108f6fc72ed6", func := "loop.example/cableship/laws.FnExactSignalLevel", spec := "fnExactSignalLevel", inPlace := ["internal/bytealg.IndexByteString", "internal/bytealg.IndexString", "internal/abi.NoEscape", "internal/bytealg.MakeNoZero"], named := ["unicode/utf8.first", "unicode/utf8.acceptRanges", "internal/bytealg.MaxLen"], apart := false, laid := [("unicode/utf8.acceptRanges", laid_unicode_utf8_acceptRanges), ("unicode/utf8.first", laid_unicode_utf8_first)] }
def FnExactSignalLevelSaid : Prop := fnExactSignalLevelRow.holds Tryd.pinned (OpenSpec.ofChange fnExactSignalLevelSpec)

/-- ITS FALSE NEIGHBOUR: 'it returns false'. Refute it at one input. -/
def fnExactSignalLevelWrong : ChangeSpec := { name := "fnExactSignalLevel", fn := fun _ => fun
  | [d] => { results := [.lit (.bool false)], args := [d] }
  | _ => none }
def FnExactSignalLevelWrongFalsely : Prop := fnExactSignalLevelRow.holds Tryd.pinned (OpenSpec.ofChange fnExactSignalLevelWrong)

/-- 'laws.FnExactSignalRead': WHATEVER THE INPUT: true; the input reads as it did. -/
def fnExactSignalReadSpec : ChangeSpec := { name := "fnExactSignalRead", fn := fun _ => fun
  | [d] => { results := [.lit (.bool true)], args := [d] }
  | _ => none }
def fnExactSignalReadRow : OpenClaim := { program := "ytpldkfbglfcidaadoor", sum := "3d5d6faa4f8bbc2b325e2c7cd382994db819d961a08d379d1882108f6fc72ed6", func := "loop.example/cableship/laws.FnExactSignalRead", spec := "fnExactSignalRead", inPlace := ["internal/bytealg.IndexByteString", "internal/bytealg.IndexString"], unfollowed := true, recurses := true, named := ["unicode/utf8.first", "unicode/utf8.acceptRanges", "internal/bytealg.MaxLen"], apart := false, laid := [("unicode/utf8.acceptRanges", laid_unicode_utf8_acceptRanges), ("unicode/utf8.first", laid_unicode_utf8_first)] }
def FnExactSignalReadSaid : Prop := fnExactSignalReadRow.holds Tryd.pinned (OpenSpec.ofChange fnExactSignalReadSpec)

/-- ITS FALSE NEIGHBOUR: 'it returns false'. Refute it at one input. -/
def fnExactSignalReadWrong : ChangeSpec := { name := "fnExactSignalRead", fn := fun _ => fun
  | [d] => { results := [.lit (.bool false)], args := [d] }
  | _ => none }
def FnExactSignalReadWrongFalsely : Prop := fnExactSignalReadRow.holds Tryd.pinned (OpenSpec.ofChange fnExactSignalReadWrong)

/- THE SECOND FORM. 'bulk': how many values and letters a reading holds, each counted each time it is reached (what is shared counts as often as it is met; a slice's spare places count too). A statement '..UptoSaid' is the law's where the arguments, and the package variables that the reading takes, are together of bulk at most 1048576: NARROWER than '..Said'. Prove '..Said' where nothing that the law and all that it calls make is longer than what came in: it says more and counts as full. Else prove '..UptoSaid'. A law counts once. -/
mutual
def uptoBulk {H : Type} : DataW H → Nat
  | .lit (.string bytes) => bytes.length + 1
  | .lit _ => 1
  | .nil => 1
  | .ptr d => uptoBulk d + 1
  | .slice elems spare => uptoBulkAll elems + uptoBulkAll spare + 1
  | .agg parts => uptoBulkAll parts + 1
  | .iface _ d => uptoBulk d + 1
  | .map entries => uptoBulkEntries entries + 1
  | .held _ => 1
def uptoBulkAll {H : Type} : List (DataW H) → Nat
  | [] => 0
  | d :: r => uptoBulk d + uptoBulkAll r
def uptoBulkEntries {H : Type} : List (Lit × DataW H) → Nat
  | [] => 0
  | x :: r => uptoBulkEntry x + uptoBulkEntries r
def uptoBulkEntry {H : Type} : Lit × DataW H → Nat
  | (.string bytes, d) => bytes.length + uptoBulk d + 1
  | (_, d) => uptoBulk d + 1
 end
def uptoSmall : (H : Type) → List (DataW H) → Bool := fun _ ds => decide (uptoBulkAll ds ≤ 1048576)
def OpenSpec.upto (s : _root_.Go.ChangeSpec) : _root_.Go.OpenSpec := { _root_.Go.OpenSpec.ofChange s with cond := some uptoSmall }

/-- 'laws.FnLetters', WHERE WHAT IT READS IS OF BULK AT MOST 1048576: true; the input reads as it did. -/
def fnLettersUptoRow : OpenClaim := { program := "ytpldkfbglfcidaadoor", sum := "3d5d6faa4f8bbc2b325e2c7cd382994db819d961a08d379d1882108f6fc72ed6", func := "loop.example/cableship/laws.FnLetters", spec := "fnLetters", inPlace := ["internal/bytealg.IndexByteString", "internal/bytealg.IndexString"], unfollowed := true, recurses := true, named := ["unicode/utf8.first", "unicode/utf8.acceptRanges", "internal/bytealg.MaxLen"], apart := false, laid := [("unicode/utf8.acceptRanges", laid_unicode_utf8_acceptRanges), ("unicode/utf8.first", laid_unicode_utf8_first)], narrowed := true }
def FnLettersUptoSaid : Prop := fnLettersUptoRow.holds Tryd.pinned (OpenSpec.upto fnLettersSpec)

/-- 'laws.FnExactSignalValid', WHERE WHAT IT READS IS OF BULK AT MOST 1048576: true; the input reads as it did. -/
def fnExactSignalValidUptoRow : OpenClaim := { program := "ytpldkfbglfcidaadoor", sum := "3d5d6faa4f8bbc2b325e2c7cd382994db819d961a08d379d1882108f6fc72ed6", func := "loop.example/cableship/laws.FnExactSignalValid", spec := "fnExactSignalValid", inPlace := ["internal/bytealg.IndexByteString", "internal/bytealg.IndexString"], named := ["unicode/utf8.first", "unicode/utf8.acceptRanges", "internal/bytealg.MaxLen"], apart := false, laid := [("unicode/utf8.acceptRanges", laid_unicode_utf8_acceptRanges), ("unicode/utf8.first", laid_unicode_utf8_first)], narrowed := true }
def FnExactSignalValidUptoSaid : Prop := fnExactSignalValidUptoRow.holds Tryd.pinned (OpenSpec.upto fnExactSignalValidSpec)

/-- 'laws.FnExactSignalFar', WHERE WHAT IT READS IS OF BULK AT MOST 1048576: true; the input reads as it did. -/
def fnExactSignalFarUptoRow : OpenClaim := { program := "ytpldkfbglfcidaadoor", sum := "3d5d6faa4f8bbc2b325e2c7cd382994db819d961a08d379d1882108f6fc72ed6", func := "loop.example/cableship/laws.FnExactSignalFar", spec := "fnExactSignalFar", inPlace := ["internal/bytealg.IndexByteString", "internal/bytealg.IndexString"], named := ["unicode/utf8.first", "unicode/utf8.acceptRanges", "internal/bytealg.MaxLen"], apart := false, laid := [("unicode/utf8.acceptRanges", laid_unicode_utf8_acceptRanges), ("unicode/utf8.first", laid_unicode_utf8_first)], narrowed := true }
def FnExactSignalFarUptoSaid : Prop := fnExactSignalFarUptoRow.holds Tryd.pinned (OpenSpec.upto fnExactSignalFarSpec)

/-- 'laws.FnExactSignalVote', WHERE WHAT IT READS IS OF BULK AT MOST 1048576: true; the input reads as it did. -/
def fnExactSignalVoteUptoRow : OpenClaim := { program := "ytpldkfbglfcidaadoor", sum := "3d5d6faa4f8bbc2b325e2c7cd382994db819d961a08d379d1882108f6fc72ed6", func := "loop.example/cableship/laws.FnExactSignalVote", spec := "fnExactSignalVote", inPlace := ["internal/bytealg.IndexByteString", "internal/bytealg.IndexString"], named := ["unicode/utf8.first", "unicode/utf8.acceptRanges", "internal/bytealg.MaxLen"], apart := false, laid := [("unicode/utf8.acceptRanges", laid_unicode_utf8_acceptRanges), ("unicode/utf8.first", laid_unicode_utf8_first)], narrowed := true }
def FnExactSignalVoteUptoSaid : Prop := fnExactSignalVoteUptoRow.holds Tryd.pinned (OpenSpec.upto fnExactSignalVoteSpec)

/-- 'laws.FnExactSignalDrift', WHERE WHAT IT READS IS OF BULK AT MOST 1048576: true; the input reads as it did. -/
def fnExactSignalDriftUptoRow : OpenClaim := { program := "ytpldkfbglfcidaadoor", sum := "3d5d6faa4f8bbc2b325e2c7cd382994db819d961a08d379d1882108f6fc72ed6", func := "loop.example/cableship/laws.FnExactSignalDrift", spec := "fnExactSignalDrift", inPlace := ["internal/bytealg.IndexByteString", "internal/bytealg.IndexString"], named := ["unicode/utf8.first", "unicode/utf8.acceptRanges", "internal/bytealg.MaxLen"], apart := false, laid := [("unicode/utf8.acceptRanges", laid_unicode_utf8_acceptRanges), ("unicode/utf8.first", laid_unicode_utf8_first)], narrowed := true }
def FnExactSignalDriftUptoSaid : Prop := fnExactSignalDriftUptoRow.holds Tryd.pinned (OpenSpec.upto fnExactSignalDriftSpec)

/-- 'laws.FnExactSignalWide', WHERE WHAT IT READS IS OF BULK AT MOST 1048576: true; the input reads as it did. -/
def fnExactSignalWideUptoRow : OpenClaim := { program := "ytpldkfbglfcidaadoor", sum := "3d5d6faa4f8bbc2b325e2c7cd382994db819d961a08d379d1882108f6fc72ed6", func := "loop.example/cableship/laws.FnExactSignalWide", spec := "fnExactSignalWide", inPlace := ["internal/bytealg.IndexByteString", "internal/bytealg.IndexString"], named := ["unicode/utf8.first", "unicode/utf8.acceptRanges", "internal/bytealg.MaxLen"], apart := false, laid := [("unicode/utf8.acceptRanges", laid_unicode_utf8_acceptRanges), ("unicode/utf8.first", laid_unicode_utf8_first)], narrowed := true }
def FnExactSignalWideUptoSaid : Prop := fnExactSignalWideUptoRow.holds Tryd.pinned (OpenSpec.upto fnExactSignalWideSpec)

/-- 'laws.FnSignalVote', WHERE WHAT IT READS IS OF BULK AT MOST 1048576: true; the input reads as it did. -/
def fnSignalVoteUptoRow : OpenClaim := { program := "ytpldkfbglfcidaadoor", sum := "3d5d6faa4f8bbc2b325e2c7cd382994db819d961a08d379d1882108f6fc72ed6", func := "loop.example/cableship/laws.FnSignalVote", spec := "fnSignalVote", inPlace := ["internal/bytealg.IndexByteString", "internal/bytealg.IndexString"], named := ["unicode/utf8.first", "unicode/utf8.acceptRanges", "internal/bytealg.MaxLen"], apart := false, laid := [("unicode/utf8.acceptRanges", laid_unicode_utf8_acceptRanges), ("unicode/utf8.first", laid_unicode_utf8_first)], narrowed := true }
def FnSignalVoteUptoSaid : Prop := fnSignalVoteUptoRow.holds Tryd.pinned (OpenSpec.upto fnSignalVoteSpec)

/-- 'laws.FnExactSignalLevel', WHERE WHAT IT READS IS OF BULK AT MOST 1048576: true; the input reads as it did. -/
def fnExactSignalLevelUptoRow : OpenClaim := { program := "ytpldkfbglfcidaadoor", sum := "3d5d6faa4f8bbc2b325e2c7cd382994db819d961a08d379d1882108f6fc72ed6", func := "loop.example/cableship/laws.FnExactSignalLevel", spec := "fnExactSignalLevel", inPlace := ["internal/bytealg.IndexByteString", "internal/bytealg.IndexString", "internal/abi.NoEscape", "internal/bytealg.MakeNoZero"], named := ["unicode/utf8.first", "unicode/utf8.acceptRanges", "internal/bytealg.MaxLen"], apart := false, laid := [("unicode/utf8.acceptRanges", laid_unicode_utf8_acceptRanges), ("unicode/utf8.first", laid_unicode_utf8_first)], narrowed := true }
def FnExactSignalLevelUptoSaid : Prop := fnExactSignalLevelUptoRow.holds Tryd.pinned (OpenSpec.upto fnExactSignalLevelSpec)

/-- 'laws.FnExactSignalRead', WHERE WHAT IT READS IS OF BULK AT MOST 1048576: true; the input reads as it did. -/
def fnExactSignalReadUptoRow : OpenClaim := { program := "ytpldkfbglfcidaadoor", sum := "3d5d6faa4f8bbc2b325e2c7cd382994db819d961a08d379d1882108f6fc72ed6", func := "loop.example/cableship/laws.FnExactSignalRead", spec := "fnExactSignalRead", inPlace := ["internal/bytealg.IndexByteString", "internal/bytealg.IndexString"], unfollowed := true, recurses := true, named := ["unicode/utf8.first", "unicode/utf8.acceptRanges", "internal/bytealg.MaxLen"], apart := false, laid := [("unicode/utf8.acceptRanges", laid_unicode_utf8_acceptRanges), ("unicode/utf8.first", laid_unicode_utf8_first)], narrowed := true }
def FnExactSignalReadUptoSaid : Prop := fnExactSignalReadUptoRow.holds Tryd.pinned (OpenSpec.upto fnExactSignalReadSpec)

end Rows
end Go.Proofs.YtpldkfbglfcidaaDoor
