/-
  No cell of these rows narrows 'for every input' (looked for: loops, veiled, ifaces, maps, wideKeys, modest, calm, conditions, laid).
  DERIVED. THE GIVEN ROWS OF THIS SEAT. 13 by the template 'for every input the law returns true; each argument reads behind the call as it read before'; 0 by the template 'total and deterministic' (their statements: YtglncadfmomamaaTotals.lean).
  GIVEN WITH THE SEED: the statements are not yours to turn. If you find one false, say at which input.
  Laid BY PROGRAM, IN A SANDBOX (cutbox-rows.mjs): the forced cells as the released guide's own fill.sh prints them over the translation a5971a29db218110… (all of the seat's roots in one cut). By AI agents, Wed Nov 11 2026. No macro, syntax, notation, axiom, sorry.
-/
import Derived.Test.YtglncadfmomamaaChecked
import GoSem.Claim
import GoSem.ClaimJoined
import GoSem.ClaimMapViews
import Derived.JoinedTies
import Derived.KernelRfl
namespace Go.Proofs.Ytglncadfmomamaa
/- THE CELL 'sum', in the pinned program and in every row, IS THE sha256 OF THE DUMP (.gsa) THAT YtglncadfmomamaaProg.lean LOADS. Nothing in Lean hashes anything: it is a label: what it is worth is what the hold of that sum in a sandbox is worth. -/
noncomputable def Try.pinned : Pinned := { name := "ytglncadfmomamaa", sum := "a5971a29db2181106de3a0b122ea3afa29013539edc187aaf5dc25ed8c1b0caa", checked := Try.checked }
namespace Rows
def none {H : Type} : Left H := { results := [], args := [] }

/-- 'laws.FnExactJobsValid': WHATEVER THE INPUT: true; the input reads as it did. -/
def fnExactJobsValidSpec : ChangeSpec := { name := "fnExactJobsValid", fn := fun _ => fun
  | [d] => { results := [.lit (.bool true)], args := [d] }
  | _ => none }
def fnExactJobsValidRow : OpenClaim := { program := "ytglncadfmomamaa", sum := "a5971a29db2181106de3a0b122ea3afa29013539edc187aaf5dc25ed8c1b0caa", func := "loop.example/cableship/laws.FnExactJobsValid", spec := "fnExactJobsValid", unfollowed := true, recurses := true, apart := false }
def FnExactJobsValidSaid : Prop := fnExactJobsValidRow.holds Try.pinned (OpenSpec.ofChange fnExactJobsValidSpec)

/-- ITS FALSE NEIGHBOUR: 'it returns false'. Refute it at one input. -/
def fnExactJobsValidWrong : ChangeSpec := { name := "fnExactJobsValid", fn := fun _ => fun
  | [d] => { results := [.lit (.bool false)], args := [d] }
  | _ => none }
def FnExactJobsValidWrongFalsely : Prop := fnExactJobsValidRow.holds Try.pinned (OpenSpec.ofChange fnExactJobsValidWrong)

/-- 'laws.FnExactJobsDays': WHATEVER THE INPUT: true; the input reads as it did. -/
def fnExactJobsDaysSpec : ChangeSpec := { name := "fnExactJobsDays", fn := fun _ => fun
  | [d] => { results := [.lit (.bool true)], args := [d] }
  | _ => none }
def fnExactJobsDaysRow : OpenClaim := { program := "ytglncadfmomamaa", sum := "a5971a29db2181106de3a0b122ea3afa29013539edc187aaf5dc25ed8c1b0caa", func := "loop.example/cableship/laws.FnExactJobsDays", spec := "fnExactJobsDays", unfollowed := true, recurses := true, apart := false }
def FnExactJobsDaysSaid : Prop := fnExactJobsDaysRow.holds Try.pinned (OpenSpec.ofChange fnExactJobsDaysSpec)

/-- ITS FALSE NEIGHBOUR: 'it returns false'. Refute it at one input. -/
def fnExactJobsDaysWrong : ChangeSpec := { name := "fnExactJobsDays", fn := fun _ => fun
  | [d] => { results := [.lit (.bool false)], args := [d] }
  | _ => none }
def FnExactJobsDaysWrongFalsely : Prop := fnExactJobsDaysRow.holds Try.pinned (OpenSpec.ofChange fnExactJobsDaysWrong)

/-- 'laws.FnPlanRate': WHATEVER THE INPUT: true; the input reads as it did. -/
def fnPlanRateSpec : ChangeSpec := { name := "fnPlanRate", fn := fun _ => fun
  | [d] => { results := [.lit (.bool true)], args := [d] }
  | _ => none }
def fnPlanRateRow : OpenClaim := { program := "ytglncadfmomamaa", sum := "a5971a29db2181106de3a0b122ea3afa29013539edc187aaf5dc25ed8c1b0caa", func := "loop.example/cableship/laws.FnPlanRate", spec := "fnPlanRate", unfollowed := true, recurses := true, apart := false }
def FnPlanRateSaid : Prop := fnPlanRateRow.holds Try.pinned (OpenSpec.ofChange fnPlanRateSpec)

/-- ITS FALSE NEIGHBOUR: 'it returns false'. Refute it at one input. -/
def fnPlanRateWrong : ChangeSpec := { name := "fnPlanRate", fn := fun _ => fun
  | [d] => { results := [.lit (.bool false)], args := [d] }
  | _ => none }
def FnPlanRateWrongFalsely : Prop := fnPlanRateRow.holds Try.pinned (OpenSpec.ofChange fnPlanRateWrong)

/-- 'laws.FnPlanBest': WHATEVER THE INPUT: true; the input reads as it did. -/
def fnPlanBestSpec : ChangeSpec := { name := "fnPlanBest", fn := fun _ => fun
  | [d] => { results := [.lit (.bool true)], args := [d] }
  | _ => none }
def fnPlanBestRow : OpenClaim := { program := "ytglncadfmomamaa", sum := "a5971a29db2181106de3a0b122ea3afa29013539edc187aaf5dc25ed8c1b0caa", func := "loop.example/cableship/laws.FnPlanBest", spec := "fnPlanBest", unfollowed := true, recurses := true, apart := false }
def FnPlanBestSaid : Prop := fnPlanBestRow.holds Try.pinned (OpenSpec.ofChange fnPlanBestSpec)

/-- ITS FALSE NEIGHBOUR: 'it returns false'. Refute it at one input. -/
def fnPlanBestWrong : ChangeSpec := { name := "fnPlanBest", fn := fun _ => fun
  | [d] => { results := [.lit (.bool false)], args := [d] }
  | _ => none }
def FnPlanBestWrongFalsely : Prop := fnPlanBestRow.holds Try.pinned (OpenSpec.ofChange fnPlanBestWrong)

/-- 'laws.FnJobsDays': WHATEVER THE INPUT: true; the input reads as it did. -/
def fnJobsDaysSpec : ChangeSpec := { name := "fnJobsDays", fn := fun _ => fun
  | [d1, d2] => { results := [.lit (.bool true)], args := [d1, d2] }
  | _ => none }
def fnJobsDaysRow : OpenClaim := { program := "ytglncadfmomamaa", sum := "a5971a29db2181106de3a0b122ea3afa29013539edc187aaf5dc25ed8c1b0caa", func := "loop.example/cableship/laws.FnJobsDays", spec := "fnJobsDays", unfollowed := true, recurses := true, apart := false }
def FnJobsDaysSaid : Prop := fnJobsDaysRow.holds Try.pinned (OpenSpec.ofChange fnJobsDaysSpec)

/-- ITS FALSE NEIGHBOUR: 'it returns false'. Refute it at one input. -/
def fnJobsDaysWrong : ChangeSpec := { name := "fnJobsDays", fn := fun _ => fun
  | [d1, d2] => { results := [.lit (.bool false)], args := [d1, d2] }
  | _ => none }
def FnJobsDaysWrongFalsely : Prop := fnJobsDaysRow.holds Try.pinned (OpenSpec.ofChange fnJobsDaysWrong)

/-- 'laws.FnExactPlanValid': WHATEVER THE INPUT: true; the input reads as it did. -/
def fnExactPlanValidSpec : ChangeSpec := { name := "fnExactPlanValid", fn := fun _ => fun
  | [d1, d2, d3] => { results := [.lit (.bool true)], args := [d1, d2, d3] }
  | _ => none }
def fnExactPlanValidRow : OpenClaim := { program := "ytglncadfmomamaa", sum := "a5971a29db2181106de3a0b122ea3afa29013539edc187aaf5dc25ed8c1b0caa", func := "loop.example/cableship/laws.FnExactPlanValid", spec := "fnExactPlanValid", unfollowed := true, recurses := true, apart := false }
def FnExactPlanValidSaid : Prop := fnExactPlanValidRow.holds Try.pinned (OpenSpec.ofChange fnExactPlanValidSpec)

/-- ITS FALSE NEIGHBOUR: 'it returns false'. Refute it at one input. -/
def fnExactPlanValidWrong : ChangeSpec := { name := "fnExactPlanValid", fn := fun _ => fun
  | [d1, d2, d3] => { results := [.lit (.bool false)], args := [d1, d2, d3] }
  | _ => none }
def FnExactPlanValidWrongFalsely : Prop := fnExactPlanValidRow.holds Try.pinned (OpenSpec.ofChange fnExactPlanValidWrong)

/-- 'laws.FnExactPlanLoss': WHATEVER THE INPUT: true; the input reads as it did. -/
def fnExactPlanLossSpec : ChangeSpec := { name := "fnExactPlanLoss", fn := fun _ => fun
  | [d1, d2, d3] => { results := [.lit (.bool true)], args := [d1, d2, d3] }
  | _ => none }
def fnExactPlanLossRow : OpenClaim := { program := "ytglncadfmomamaa", sum := "a5971a29db2181106de3a0b122ea3afa29013539edc187aaf5dc25ed8c1b0caa", func := "loop.example/cableship/laws.FnExactPlanLoss", spec := "fnExactPlanLoss", unfollowed := true, recurses := true, apart := false }
def FnExactPlanLossSaid : Prop := fnExactPlanLossRow.holds Try.pinned (OpenSpec.ofChange fnExactPlanLossSpec)

/-- ITS FALSE NEIGHBOUR: 'it returns false'. Refute it at one input. -/
def fnExactPlanLossWrong : ChangeSpec := { name := "fnExactPlanLoss", fn := fun _ => fun
  | [d1, d2, d3] => { results := [.lit (.bool false)], args := [d1, d2, d3] }
  | _ => none }
def FnExactPlanLossWrongFalsely : Prop := fnExactPlanLossRow.holds Try.pinned (OpenSpec.ofChange fnExactPlanLossWrong)

/-- 'laws.FnExactPlanEnds': WHATEVER THE INPUT: true; the input reads as it did. -/
def fnExactPlanEndsSpec : ChangeSpec := { name := "fnExactPlanEnds", fn := fun _ => fun
  | [d1, d2, d3] => { results := [.lit (.bool true)], args := [d1, d2, d3] }
  | _ => none }
def fnExactPlanEndsRow : OpenClaim := { program := "ytglncadfmomamaa", sum := "a5971a29db2181106de3a0b122ea3afa29013539edc187aaf5dc25ed8c1b0caa", func := "loop.example/cableship/laws.FnExactPlanEnds", spec := "fnExactPlanEnds", unfollowed := true, recurses := true, apart := false }
def FnExactPlanEndsSaid : Prop := fnExactPlanEndsRow.holds Try.pinned (OpenSpec.ofChange fnExactPlanEndsSpec)

/-- ITS FALSE NEIGHBOUR: 'it returns false'. Refute it at one input. -/
def fnExactPlanEndsWrong : ChangeSpec := { name := "fnExactPlanEnds", fn := fun _ => fun
  | [d1, d2, d3] => { results := [.lit (.bool false)], args := [d1, d2, d3] }
  | _ => none }
def FnExactPlanEndsWrongFalsely : Prop := fnExactPlanEndsRow.holds Try.pinned (OpenSpec.ofChange fnExactPlanEndsWrong)

/-- 'laws.FnLoss': WHATEVER THE INPUT: true; the input reads as it did. -/
def fnLossSpec : ChangeSpec := { name := "fnLoss", fn := fun _ => fun
  | [d] => { results := [.lit (.bool true)], args := [d] }
  | _ => none }
def fnLossRow : OpenClaim := { program := "ytglncadfmomamaa", sum := "a5971a29db2181106de3a0b122ea3afa29013539edc187aaf5dc25ed8c1b0caa", func := "loop.example/cableship/laws.FnLoss", spec := "fnLoss", unfollowed := true, recurses := true, apart := false }
def FnLossSaid : Prop := fnLossRow.holds Try.pinned (OpenSpec.ofChange fnLossSpec)

/-- ITS FALSE NEIGHBOUR: 'it returns false'. Refute it at one input. -/
def fnLossWrong : ChangeSpec := { name := "fnLoss", fn := fun _ => fun
  | [d] => { results := [.lit (.bool false)], args := [d] }
  | _ => none }
def FnLossWrongFalsely : Prop := fnLossRow.holds Try.pinned (OpenSpec.ofChange fnLossWrong)

/-- 'laws.FnEnds': WHATEVER THE INPUT: true; the input reads as it did. -/
def fnEndsSpec : ChangeSpec := { name := "fnEnds", fn := fun _ => fun
  | [d] => { results := [.lit (.bool true)], args := [d] }
  | _ => none }
def fnEndsRow : OpenClaim := { program := "ytglncadfmomamaa", sum := "a5971a29db2181106de3a0b122ea3afa29013539edc187aaf5dc25ed8c1b0caa", func := "loop.example/cableship/laws.FnEnds", spec := "fnEnds", unfollowed := true, recurses := true, apart := false }
def FnEndsSaid : Prop := fnEndsRow.holds Try.pinned (OpenSpec.ofChange fnEndsSpec)

/-- ITS FALSE NEIGHBOUR: 'it returns false'. Refute it at one input. -/
def fnEndsWrong : ChangeSpec := { name := "fnEnds", fn := fun _ => fun
  | [d] => { results := [.lit (.bool false)], args := [d] }
  | _ => none }
def FnEndsWrongFalsely : Prop := fnEndsRow.holds Try.pinned (OpenSpec.ofChange fnEndsWrong)

/-- 'laws.FnExactPlanBest': WHATEVER THE INPUT: true; the input reads as it did. -/
def fnExactPlanBestSpec : ChangeSpec := { name := "fnExactPlanBest", fn := fun _ => fun
  | [d1, d2] => { results := [.lit (.bool true)], args := [d1, d2] }
  | _ => none }
def fnExactPlanBestRow : OpenClaim := { program := "ytglncadfmomamaa", sum := "a5971a29db2181106de3a0b122ea3afa29013539edc187aaf5dc25ed8c1b0caa", func := "loop.example/cableship/laws.FnExactPlanBest", spec := "fnExactPlanBest", unfollowed := true, recurses := true, apart := false }
def FnExactPlanBestSaid : Prop := fnExactPlanBestRow.holds Try.pinned (OpenSpec.ofChange fnExactPlanBestSpec)

/-- ITS FALSE NEIGHBOUR: 'it returns false'. Refute it at one input. -/
def fnExactPlanBestWrong : ChangeSpec := { name := "fnExactPlanBest", fn := fun _ => fun
  | [d1, d2] => { results := [.lit (.bool false)], args := [d1, d2] }
  | _ => none }
def FnExactPlanBestWrongFalsely : Prop := fnExactPlanBestRow.holds Try.pinned (OpenSpec.ofChange fnExactPlanBestWrong)

/-- 'laws.FnPlan': WHATEVER THE INPUT: true; the input reads as it did. -/
def fnPlanSpec : ChangeSpec := { name := "fnPlan", fn := fun _ => fun
  | [d] => { results := [.lit (.bool true)], args := [d] }
  | _ => none }
def fnPlanRow : OpenClaim := { program := "ytglncadfmomamaa", sum := "a5971a29db2181106de3a0b122ea3afa29013539edc187aaf5dc25ed8c1b0caa", func := "loop.example/cableship/laws.FnPlan", spec := "fnPlan", unfollowed := true, recurses := true, apart := false }
def FnPlanSaid : Prop := fnPlanRow.holds Try.pinned (OpenSpec.ofChange fnPlanSpec)

/-- ITS FALSE NEIGHBOUR: 'it returns false'. Refute it at one input. -/
def fnPlanWrong : ChangeSpec := { name := "fnPlan", fn := fun _ => fun
  | [d] => { results := [.lit (.bool false)], args := [d] }
  | _ => none }
def FnPlanWrongFalsely : Prop := fnPlanRow.holds Try.pinned (OpenSpec.ofChange fnPlanWrong)

/-- 'laws.FnExactPlanRate': WHATEVER THE INPUT: true; the input reads as it did. -/
def fnExactPlanRateSpec : ChangeSpec := { name := "fnExactPlanRate", fn := fun _ => fun
  | [d1, d2] => { results := [.lit (.bool true)], args := [d1, d2] }
  | _ => none }
def fnExactPlanRateRow : OpenClaim := { program := "ytglncadfmomamaa", sum := "a5971a29db2181106de3a0b122ea3afa29013539edc187aaf5dc25ed8c1b0caa", func := "loop.example/cableship/laws.FnExactPlanRate", spec := "fnExactPlanRate", unfollowed := true, recurses := true, apart := false }
def FnExactPlanRateSaid : Prop := fnExactPlanRateRow.holds Try.pinned (OpenSpec.ofChange fnExactPlanRateSpec)

/-- ITS FALSE NEIGHBOUR: 'it returns false'. Refute it at one input. -/
def fnExactPlanRateWrong : ChangeSpec := { name := "fnExactPlanRate", fn := fun _ => fun
  | [d1, d2] => { results := [.lit (.bool false)], args := [d1, d2] }
  | _ => none }
def FnExactPlanRateWrongFalsely : Prop := fnExactPlanRateRow.holds Try.pinned (OpenSpec.ofChange fnExactPlanRateWrong)

/- THE SECOND FORM. 'bulk': how many values and letters a reading holds, each counted each time it is reached (what is shared counts as often as it is met; a slice's spare places count too). A statement '..UptoSaid' is the law's where the arguments, and the package variables that the reading takes, are together of bulk at most 1048576: NARROWER than '..Said'. Prove '..Said' where nothing that the law and all that it calls make is longer than what came in: it says more and counts as full. Else prove '..UptoSaid'. A law counts once. -/
mutual
def uptoBulk {H : Type} : DataW H → Nat
  | .lit (.string bytes) => bytes.length + 1
  | .lit _ => 1
  | .nil => 1
  | .ptr d => uptoBulk d + 1
  | .slice elems spare => uptoBulkAll elems + uptoBulkAll spare + 1
  | .agg parts => uptoBulkAll parts + 1
  | .iface _ d => uptoBulk d + 1
  | .map entries => uptoBulkEntries entries + 1
  | .held _ => 1
def uptoBulkAll {H : Type} : List (DataW H) → Nat
  | [] => 0
  | d :: r => uptoBulk d + uptoBulkAll r
def uptoBulkEntries {H : Type} : List (Lit × DataW H) → Nat
  | [] => 0
  | x :: r => uptoBulkEntry x + uptoBulkEntries r
def uptoBulkEntry {H : Type} : Lit × DataW H → Nat
  | (.string bytes, d) => bytes.length + uptoBulk d + 1
  | (_, d) => uptoBulk d + 1
 end
def uptoSmall : (H : Type) → List (DataW H) → Bool := fun _ ds => decide (uptoBulkAll ds ≤ 1048576)
def OpenSpec.upto (s : _root_.Go.ChangeSpec) : _root_.Go.OpenSpec := { _root_.Go.OpenSpec.ofChange s with cond := some uptoSmall }

/-- 'laws.FnExactJobsValid', WHERE WHAT IT READS IS OF BULK AT MOST 1048576: true; the input reads as it did. -/
def fnExactJobsValidUptoRow : OpenClaim := { program := "ytglncadfmomamaa", sum := "a5971a29db2181106de3a0b122ea3afa29013539edc187aaf5dc25ed8c1b0caa", func := "loop.example/cableship/laws.FnExactJobsValid", spec := "fnExactJobsValid", unfollowed := true, recurses := true, apart := false, narrowed := true }
def FnExactJobsValidUptoSaid : Prop := fnExactJobsValidUptoRow.holds Try.pinned (OpenSpec.upto fnExactJobsValidSpec)

/-- 'laws.FnExactJobsDays', WHERE WHAT IT READS IS OF BULK AT MOST 1048576: true; the input reads as it did. -/
def fnExactJobsDaysUptoRow : OpenClaim := { program := "ytglncadfmomamaa", sum := "a5971a29db2181106de3a0b122ea3afa29013539edc187aaf5dc25ed8c1b0caa", func := "loop.example/cableship/laws.FnExactJobsDays", spec := "fnExactJobsDays", unfollowed := true, recurses := true, apart := false, narrowed := true }
def FnExactJobsDaysUptoSaid : Prop := fnExactJobsDaysUptoRow.holds Try.pinned (OpenSpec.upto fnExactJobsDaysSpec)

/-- 'laws.FnPlanRate', WHERE WHAT IT READS IS OF BULK AT MOST 1048576: true; the input reads as it did. -/
def fnPlanRateUptoRow : OpenClaim := { program := "ytglncadfmomamaa", sum := "a5971a29db2181106de3a0b122ea3afa29013539edc187aaf5dc25ed8c1b0caa", func := "loop.example/cableship/laws.FnPlanRate", spec := "fnPlanRate", unfollowed := true, recurses := true, apart := false, narrowed := true }
def FnPlanRateUptoSaid : Prop := fnPlanRateUptoRow.holds Try.pinned (OpenSpec.upto fnPlanRateSpec)

/-- 'laws.FnPlanBest', WHERE WHAT IT READS IS OF BULK AT MOST 1048576: true; the input reads as it did. -/
def fnPlanBestUptoRow : OpenClaim := { program := "ytglncadfmomamaa", sum := "a5971a29db2181106de3a0b122ea3afa29013539edc187aaf5dc25ed8c1b0caa", func := "loop.example/cableship/laws.FnPlanBest", spec := "fnPlanBest", unfollowed := true, recurses := true, apart := false, narrowed := true }
def FnPlanBestUptoSaid : Prop := fnPlanBestUptoRow.holds Try.pinned (OpenSpec.upto fnPlanBestSpec)

/-- 'laws.FnJobsDays', WHERE WHAT IT READS IS OF BULK AT MOST 1048576: true; the input reads as it did. -/
def fnJobsDaysUptoRow : OpenClaim := { program := "ytglncadfmomamaa", sum := "a5971a29db2181106de3a0b122ea3afa29013539edc187aaf5dc25ed8c1b0caa", func := "loop.example/cableship/laws.FnJobsDays", spec := "fnJobsDays", unfollowed := true, recurses := true, apart := false, narrowed := true }
def FnJobsDaysUptoSaid : Prop := fnJobsDaysUptoRow.holds Try.pinned (OpenSpec.upto fnJobsDaysSpec)

/-- 'laws.FnExactPlanValid', WHERE WHAT IT READS IS OF BULK AT MOST 1048576: true; the input reads as it did. -/
def fnExactPlanValidUptoRow : OpenClaim := { program := "ytglncadfmomamaa", sum := "a5971a29db2181106de3a0b122ea3afa29013539edc187aaf5dc25ed8c1b0caa", func := "loop.example/cableship/laws.FnExactPlanValid", spec := "fnExactPlanValid", unfollowed := true, recurses := true, apart := false, narrowed := true }
def FnExactPlanValidUptoSaid : Prop := fnExactPlanValidUptoRow.holds Try.pinned (OpenSpec.upto fnExactPlanValidSpec)

/-- 'laws.FnExactPlanLoss', WHERE WHAT IT READS IS OF BULK AT MOST 1048576: true; the input reads as it did. -/
def fnExactPlanLossUptoRow : OpenClaim := { program := "ytglncadfmomamaa", sum := "a5971a29db2181106de3a0b122ea3afa29013539edc187aaf5dc25ed8c1b0caa", func := "loop.example/cableship/laws.FnExactPlanLoss", spec := "fnExactPlanLoss", unfollowed := true, recurses := true, apart := false, narrowed := true }
def FnExactPlanLossUptoSaid : Prop := fnExactPlanLossUptoRow.holds Try.pinned (OpenSpec.upto fnExactPlanLossSpec)

/-- 'laws.FnExactPlanEnds', WHERE WHAT IT READS IS OF BULK AT MOST 1048576: true; the input reads as it did. -/
def fnExactPlanEndsUptoRow : OpenClaim := { program := "ytglncadfmomamaa", sum := "a5971a29db2181106de3a0b122ea3afa29013539edc187aaf5dc25ed8c1b0caa", func := "loop.example/cableship/laws.FnExactPlanEnds", spec := "fnExactPlanEnds", unfollowed := true, recurses := true, apart := false, narrowed := true }
def FnExactPlanEndsUptoSaid : Prop := fnExactPlanEndsUptoRow.holds Try.pinned (OpenSpec.upto fnExactPlanEndsSpec)

/-- 'laws.FnLoss', WHERE WHAT IT READS IS OF BULK AT MOST 1048576: true; the input reads as it did. -/
def fnLossUptoRow : OpenClaim := { program := "ytglncadfmomamaa", sum := "a5971a29db2181106de3a0b122ea3afa29013539edc187aaf5dc25ed8c1b0caa", func := "loop.example/cableship/laws.FnLoss", spec := "fnLoss", unfollowed := true, recurses := true, apart := false, narrowed := true }
def FnLossUptoSaid : Prop := fnLossUptoRow.holds Try.pinned (OpenSpec.upto fnLossSpec)

/-- 'laws.FnEnds', WHERE WHAT IT READS IS OF BULK AT MOST 1048576: true; the input reads as it did. -/
def fnEndsUptoRow : OpenClaim := { program := "ytglncadfmomamaa", sum := "a5971a29db2181106de3a0b122ea3afa29013539edc187aaf5dc25ed8c1b0caa", func := "loop.example/cableship/laws.FnEnds", spec := "fnEnds", unfollowed := true, recurses := true, apart := false, narrowed := true }
def FnEndsUptoSaid : Prop := fnEndsUptoRow.holds Try.pinned (OpenSpec.upto fnEndsSpec)

/-- 'laws.FnExactPlanBest', WHERE WHAT IT READS IS OF BULK AT MOST 1048576: true; the input reads as it did. -/
def fnExactPlanBestUptoRow : OpenClaim := { program := "ytglncadfmomamaa", sum := "a5971a29db2181106de3a0b122ea3afa29013539edc187aaf5dc25ed8c1b0caa", func := "loop.example/cableship/laws.FnExactPlanBest", spec := "fnExactPlanBest", unfollowed := true, recurses := true, apart := false, narrowed := true }
def FnExactPlanBestUptoSaid : Prop := fnExactPlanBestUptoRow.holds Try.pinned (OpenSpec.upto fnExactPlanBestSpec)

/-- 'laws.FnPlan', WHERE WHAT IT READS IS OF BULK AT MOST 1048576: true; the input reads as it did. -/
def fnPlanUptoRow : OpenClaim := { program := "ytglncadfmomamaa", sum := "a5971a29db2181106de3a0b122ea3afa29013539edc187aaf5dc25ed8c1b0caa", func := "loop.example/cableship/laws.FnPlan", spec := "fnPlan", unfollowed := true, recurses := true, apart := false, narrowed := true }
def FnPlanUptoSaid : Prop := fnPlanUptoRow.holds Try.pinned (OpenSpec.upto fnPlanSpec)

/-- 'laws.FnExactPlanRate', WHERE WHAT IT READS IS OF BULK AT MOST 1048576: true; the input reads as it did. -/
def fnExactPlanRateUptoRow : OpenClaim := { program := "ytglncadfmomamaa", sum := "a5971a29db2181106de3a0b122ea3afa29013539edc187aaf5dc25ed8c1b0caa", func := "loop.example/cableship/laws.FnExactPlanRate", spec := "fnExactPlanRate", unfollowed := true, recurses := true, apart := false, narrowed := true }
def FnExactPlanRateUptoSaid : Prop := fnExactPlanRateUptoRow.holds Try.pinned (OpenSpec.upto fnExactPlanRateSpec)

end Rows
end Go.Proofs.Ytglncadfmomamaa
