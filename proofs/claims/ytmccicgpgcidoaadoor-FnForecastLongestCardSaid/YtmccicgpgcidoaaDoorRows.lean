/-
  NARROWER THAN 'FOR EVERY INPUT', by the rows' own cells (each row's printed sentence says how): FnExactForecastLongest: laid · FnExactForecastWindow: laid · FnWindow: laid · FnForecastLongest: laid.
  DERIVED. THE GIVEN ROWS OF THIS SEAT. 4 by the template 'for every input the law returns true; each argument reads behind the call as it read before'; 0 by the template 'total and deterministic' (their statements: YtmccicgpgcidoaaDoorTotals.lean).
  GIVEN WITH THE SEED: the statements are not yours to turn. If you find one false, say at which input.
  Laid BY PROGRAM, IN A SANDBOX (cutbox-rows.mjs): the forced cells as the released guide's own fill.sh prints them over the translation bb478e916864a320… (all of the seat's roots in one cut). By AI agents, Wed Nov 11 2026. No macro, syntax, notation, axiom, sorry.
-/
import Derived.Test.YtmccicgpgcidoaaDoorChecked
import GoSem.Claim
import GoSem.ClaimJoined
import GoSem.ClaimMapViews
import Derived.JoinedTies
import Derived.KernelRfl
namespace Go.Proofs.YtmccicgpgcidoaaDoor
/- THE CELL 'sum', in the pinned program and in every row, IS THE sha256 OF THE DUMP (.gsa) THAT YtmccicgpgcidoaaDoorProg.lean LOADS. Nothing in Lean hashes anything: it is a label: what it is worth is what the hold of that sum in a sandbox is worth. -/
noncomputable def Tryd.pinned : Pinned := { name := "ytmccicgpgcidoaadoor", sum := "bb478e916864a32046694744e024f81eae059a2e5b8a1d72d0f4d137b992ffce", checked := Tryd.checked }
namespace Rows
def none {H : Type} : Left H := { results := [], args := [] }

/- WHAT THE LISTED PACKAGE-LEVEL VARIABLES READ AS WHEN THE CALL BEGINS. Each datum BY PROGRAM (the guide's laid-datum.mjs) off the statement by which the dump's own 'gosem.cut.vars' lays the variable. In a bare row this is a premise. The card (YtmccicgpgcidoaaDoorCards.lean) ties it to the program's text. -/
def laid_math_bits_deBruijn32tab {H : Type} : DataW H := .agg [.lit (.int .u8 0), .lit (.int .u8 1), .lit (.int .u8 28), .lit (.int .u8 2), .lit (.int .u8 29), .lit (.int .u8 14), .lit (.int .u8 24), .lit (.int .u8 3), .lit (.int .u8 30), .lit (.int .u8 22), .lit (.int .u8 20), .lit (.int .u8 15), .lit (.int .u8 25), .lit (.int .u8 17), .lit (.int .u8 4), .lit (.int .u8 8), .lit (.int .u8 31), .lit (.int .u8 27), .lit (.int .u8 13), .lit (.int .u8 23), .lit (.int .u8 21), .lit (.int .u8 19), .lit (.int .u8 16), .lit (.int .u8 7), .lit (.int .u8 26), .lit (.int .u8 12), .lit (.int .u8 18), .lit (.int .u8 6), .lit (.int .u8 11), .lit (.int .u8 5), .lit (.int .u8 10), .lit (.int .u8 9)]

/-- 'laws.FnExactForecastLongest': WHATEVER THE INPUT: true; the input reads as it did. -/
def fnExactForecastLongestSpec : ChangeSpec := { name := "fnExactForecastLongest", fn := fun _ => fun
  | [d] => { results := [.lit (.bool true)], args := [d] }
  | _ => none }
def fnExactForecastLongestRow : OpenClaim := { program := "ytmccicgpgcidoaadoor", sum := "bb478e916864a32046694744e024f81eae059a2e5b8a1d72d0f4d137b992ffce", func := "loop.example/cableship/laws.FnExactForecastLongest", spec := "fnExactForecastLongest", named := ["math/bits.deBruijn32tab"], apart := false, laid := [("math/bits.deBruijn32tab", laid_math_bits_deBruijn32tab)] }
def FnExactForecastLongestSaid : Prop := fnExactForecastLongestRow.holds Tryd.pinned (OpenSpec.ofChange fnExactForecastLongestSpec)

/-- ITS FALSE NEIGHBOUR: 'it returns false'. Refute it at one input. -/
def fnExactForecastLongestWrong : ChangeSpec := { name := "fnExactForecastLongest", fn := fun _ => fun
  | [d] => { results := [.lit (.bool false)], args := [d] }
  | _ => none }
def FnExactForecastLongestWrongFalsely : Prop := fnExactForecastLongestRow.holds Tryd.pinned (OpenSpec.ofChange fnExactForecastLongestWrong)

/-- 'laws.FnExactForecastWindow': WHATEVER THE INPUT: true; the input reads as it did. -/
def fnExactForecastWindowSpec : ChangeSpec := { name := "fnExactForecastWindow", fn := fun _ => fun
  | [d1, d2] => { results := [.lit (.bool true)], args := [d1, d2] }
  | _ => none }
def fnExactForecastWindowRow : OpenClaim := { program := "ytmccicgpgcidoaadoor", sum := "bb478e916864a32046694744e024f81eae059a2e5b8a1d72d0f4d137b992ffce", func := "loop.example/cableship/laws.FnExactForecastWindow", spec := "fnExactForecastWindow", named := ["math/bits.deBruijn32tab"], apart := false, laid := [("math/bits.deBruijn32tab", laid_math_bits_deBruijn32tab)] }
def FnExactForecastWindowSaid : Prop := fnExactForecastWindowRow.holds Tryd.pinned (OpenSpec.ofChange fnExactForecastWindowSpec)

/-- ITS FALSE NEIGHBOUR: 'it returns false'. Refute it at one input. -/
def fnExactForecastWindowWrong : ChangeSpec := { name := "fnExactForecastWindow", fn := fun _ => fun
  | [d1, d2] => { results := [.lit (.bool false)], args := [d1, d2] }
  | _ => none }
def FnExactForecastWindowWrongFalsely : Prop := fnExactForecastWindowRow.holds Tryd.pinned (OpenSpec.ofChange fnExactForecastWindowWrong)

/-- 'laws.FnWindow': WHATEVER THE INPUT: true; the input reads as it did. -/
def fnWindowSpec : ChangeSpec := { name := "fnWindow", fn := fun _ => fun
  | [d] => { results := [.lit (.bool true)], args := [d] }
  | _ => none }
def fnWindowRow : OpenClaim := { program := "ytmccicgpgcidoaadoor", sum := "bb478e916864a32046694744e024f81eae059a2e5b8a1d72d0f4d137b992ffce", func := "loop.example/cableship/laws.FnWindow", spec := "fnWindow", named := ["math/bits.deBruijn32tab"], apart := false, laid := [("math/bits.deBruijn32tab", laid_math_bits_deBruijn32tab)] }
def FnWindowSaid : Prop := fnWindowRow.holds Tryd.pinned (OpenSpec.ofChange fnWindowSpec)

/-- ITS FALSE NEIGHBOUR: 'it returns false'. Refute it at one input. -/
def fnWindowWrong : ChangeSpec := { name := "fnWindow", fn := fun _ => fun
  | [d] => { results := [.lit (.bool false)], args := [d] }
  | _ => none }
def FnWindowWrongFalsely : Prop := fnWindowRow.holds Tryd.pinned (OpenSpec.ofChange fnWindowWrong)

/-- 'laws.FnForecastLongest': WHATEVER THE INPUT: true; the input reads as it did. -/
def fnForecastLongestSpec : ChangeSpec := { name := "fnForecastLongest", fn := fun _ => fun
  | [d] => { results := [.lit (.bool true)], args := [d] }
  | _ => none }
def fnForecastLongestRow : OpenClaim := { program := "ytmccicgpgcidoaadoor", sum := "bb478e916864a32046694744e024f81eae059a2e5b8a1d72d0f4d137b992ffce", func := "loop.example/cableship/laws.FnForecastLongest", spec := "fnForecastLongest", named := ["math/bits.deBruijn32tab"], apart := false, laid := [("math/bits.deBruijn32tab", laid_math_bits_deBruijn32tab)] }
def FnForecastLongestSaid : Prop := fnForecastLongestRow.holds Tryd.pinned (OpenSpec.ofChange fnForecastLongestSpec)

/-- ITS FALSE NEIGHBOUR: 'it returns false'. Refute it at one input. -/
def fnForecastLongestWrong : ChangeSpec := { name := "fnForecastLongest", fn := fun _ => fun
  | [d] => { results := [.lit (.bool false)], args := [d] }
  | _ => none }
def FnForecastLongestWrongFalsely : Prop := fnForecastLongestRow.holds Tryd.pinned (OpenSpec.ofChange fnForecastLongestWrong)

/- THE SECOND FORM. 'bulk': how many values and letters a reading holds, each counted each time it is reached (what is shared counts as often as it is met; a slice's spare places count too). A statement '..UptoSaid' is the law's where the arguments, and the package variables that the reading takes, are together of bulk at most 1048576: NARROWER than '..Said'. Prove '..Said' where nothing that the law and all that it calls make is longer than what came in: it says more and counts as full. Else prove '..UptoSaid'. A law counts once. -/
mutual
def uptoBulk {H : Type} : DataW H → Nat
  | .lit (.string bytes) => bytes.length + 1
  | .lit _ => 1
  | .nil => 1
  | .ptr d => uptoBulk d + 1
  | .slice elems spare => uptoBulkAll elems + uptoBulkAll spare + 1
  | .agg parts => uptoBulkAll parts + 1
  | .iface _ d => uptoBulk d + 1
  | .map entries => uptoBulkEntries entries + 1
  | .held _ => 1
def uptoBulkAll {H : Type} : List (DataW H) → Nat
  | [] => 0
  | d :: r => uptoBulk d + uptoBulkAll r
def uptoBulkEntries {H : Type} : List (Lit × DataW H) → Nat
  | [] => 0
  | x :: r => uptoBulkEntry x + uptoBulkEntries r
def uptoBulkEntry {H : Type} : Lit × DataW H → Nat
  | (.string bytes, d) => bytes.length + uptoBulk d + 1
  | (_, d) => uptoBulk d + 1
 end
def uptoSmall : (H : Type) → List (DataW H) → Bool := fun _ ds => decide (uptoBulkAll ds ≤ 1048576)
def OpenSpec.upto (s : _root_.Go.ChangeSpec) : _root_.Go.OpenSpec := { _root_.Go.OpenSpec.ofChange s with cond := some uptoSmall }

/-- 'laws.FnExactForecastLongest', WHERE WHAT IT READS IS OF BULK AT MOST 1048576: true; the input reads as it did. -/
def fnExactForecastLongestUptoRow : OpenClaim := { program := "ytmccicgpgcidoaadoor", sum := "bb478e916864a32046694744e024f81eae059a2e5b8a1d72d0f4d137b992ffce", func := "loop.example/cableship/laws.FnExactForecastLongest", spec := "fnExactForecastLongest", named := ["math/bits.deBruijn32tab"], apart := false, laid := [("math/bits.deBruijn32tab", laid_math_bits_deBruijn32tab)], narrowed := true }
def FnExactForecastLongestUptoSaid : Prop := fnExactForecastLongestUptoRow.holds Tryd.pinned (OpenSpec.upto fnExactForecastLongestSpec)

/-- 'laws.FnExactForecastWindow', WHERE WHAT IT READS IS OF BULK AT MOST 1048576: true; the input reads as it did. -/
def fnExactForecastWindowUptoRow : OpenClaim := { program := "ytmccicgpgcidoaadoor", sum := "bb478e916864a32046694744e024f81eae059a2e5b8a1d72d0f4d137b992ffce", func := "loop.example/cableship/laws.FnExactForecastWindow", spec := "fnExactForecastWindow", named := ["math/bits.deBruijn32tab"], apart := false, laid := [("math/bits.deBruijn32tab", laid_math_bits_deBruijn32tab)], narrowed := true }
def FnExactForecastWindowUptoSaid : Prop := fnExactForecastWindowUptoRow.holds Tryd.pinned (OpenSpec.upto fnExactForecastWindowSpec)

/-- 'laws.FnWindow', WHERE WHAT IT READS IS OF BULK AT MOST 1048576: true; the input reads as it did. -/
def fnWindowUptoRow : OpenClaim := { program := "ytmccicgpgcidoaadoor", sum := "bb478e916864a32046694744e024f81eae059a2e5b8a1d72d0f4d137b992ffce", func := "loop.example/cableship/laws.FnWindow", spec := "fnWindow", named := ["math/bits.deBruijn32tab"], apart := false, laid := [("math/bits.deBruijn32tab", laid_math_bits_deBruijn32tab)], narrowed := true }
def FnWindowUptoSaid : Prop := fnWindowUptoRow.holds Tryd.pinned (OpenSpec.upto fnWindowSpec)

/-- 'laws.FnForecastLongest', WHERE WHAT IT READS IS OF BULK AT MOST 1048576: true; the input reads as it did. -/
def fnForecastLongestUptoRow : OpenClaim := { program := "ytmccicgpgcidoaadoor", sum := "bb478e916864a32046694744e024f81eae059a2e5b8a1d72d0f4d137b992ffce", func := "loop.example/cableship/laws.FnForecastLongest", spec := "fnForecastLongest", named := ["math/bits.deBruijn32tab"], apart := false, laid := [("math/bits.deBruijn32tab", laid_math_bits_deBruijn32tab)], narrowed := true }
def FnForecastLongestUptoSaid : Prop := fnForecastLongestUptoRow.holds Tryd.pinned (OpenSpec.upto fnForecastLongestSpec)

end Rows
end Go.Proofs.YtmccicgpgcidoaaDoor
