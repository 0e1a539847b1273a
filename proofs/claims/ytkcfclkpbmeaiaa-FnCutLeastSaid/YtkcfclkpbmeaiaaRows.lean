/-
  No cell of these rows narrows 'for every input' (looked for: loops, veiled, ifaces, maps, wideKeys, modest, calm, conditions, laid).
  DERIVED. THE GIVEN ROWS OF THIS SEAT. 11 by the template 'for every input the law returns true; each argument reads behind the call as it read before'; 0 by the template 'total and deterministic' (their statements: YtkcfclkpbmeaiaaTotals.lean).
  GIVEN WITH THE SEED: the statements are not yours to turn. If you find one false, say at which input.
  Laid BY PROGRAM, IN A SANDBOX (cutbox-rows.mjs): the forced cells as the released guide's own fill.sh prints them over the translation 7a7fd56ff8b1b3d7… (all of the seat's roots in one cut). By AI agents, Wed Nov 11 2026. No macro, syntax, notation, axiom, sorry.
-/
import Derived.Test.YtkcfclkpbmeaiaaChecked
import GoSem.Claim
import GoSem.ClaimJoined
import GoSem.ClaimMapViews
import Derived.JoinedTies
import Derived.KernelRfl
namespace Go.Proofs.Ytkcfclkpbmeaiaa
/- THE CELL 'sum', in the pinned program and in every row, IS THE sha256 OF THE DUMP (.gsa) THAT YtkcfclkpbmeaiaaProg.lean LOADS. Nothing in Lean hashes anything: it is a label: what it is worth is what the hold of that sum in a sandbox is worth. -/
noncomputable def Try.pinned : Pinned := { name := "ytkcfclkpbmeaiaa", sum := "7a7fd56ff8b1b3d7a65b2bac24e0d2d8934a3d61e1a4b457ba3348433fb75ebb", checked := Try.checked }
namespace Rows
def none {H : Type} : Left H := { results := [], args := [] }

/-- 'laws.FnLoad': WHATEVER THE INPUT: true; the input reads as it did. -/
def fnLoadSpec : ChangeSpec := { name := "fnLoad", fn := fun _ => fun
  | [d] => { results := [.lit (.bool true)], args := [d] }
  | _ => none }
def fnLoadRow : OpenClaim := { program := "ytkcfclkpbmeaiaa", sum := "7a7fd56ff8b1b3d7a65b2bac24e0d2d8934a3d61e1a4b457ba3348433fb75ebb", func := "loop.example/cableship/laws.FnLoad", spec := "fnLoad", apart := false }
def FnLoadSaid : Prop := fnLoadRow.holds Try.pinned (OpenSpec.ofChange fnLoadSpec)

/-- ITS FALSE NEIGHBOUR: 'it returns false'. Refute it at one input. -/
def fnLoadWrong : ChangeSpec := { name := "fnLoad", fn := fun _ => fun
  | [d] => { results := [.lit (.bool false)], args := [d] }
  | _ => none }
def FnLoadWrongFalsely : Prop := fnLoadRow.holds Try.pinned (OpenSpec.ofChange fnLoadWrong)

/-- 'laws.FnWithout': WHATEVER THE INPUT: true; the input reads as it did. -/
def fnWithoutSpec : ChangeSpec := { name := "fnWithout", fn := fun _ => fun
  | [d1, d2] => { results := [.lit (.bool true)], args := [d1, d2] }
  | _ => none }
def fnWithoutRow : OpenClaim := { program := "ytkcfclkpbmeaiaa", sum := "7a7fd56ff8b1b3d7a65b2bac24e0d2d8934a3d61e1a4b457ba3348433fb75ebb", func := "loop.example/cableship/laws.FnWithout", spec := "fnWithout", apart := false }
def FnWithoutSaid : Prop := fnWithoutRow.holds Try.pinned (OpenSpec.ofChange fnWithoutSpec)

/-- ITS FALSE NEIGHBOUR: 'it returns false'. Refute it at one input. -/
def fnWithoutWrong : ChangeSpec := { name := "fnWithout", fn := fun _ => fun
  | [d1, d2] => { results := [.lit (.bool false)], args := [d1, d2] }
  | _ => none }
def FnWithoutWrongFalsely : Prop := fnWithoutRow.holds Try.pinned (OpenSpec.ofChange fnWithoutWrong)

/-- 'laws.FnCutOf': WHATEVER THE INPUT: true; the input reads as it did. -/
def fnCutOfSpec : ChangeSpec := { name := "fnCutOf", fn := fun _ => fun
  | [d] => { results := [.lit (.bool true)], args := [d] }
  | _ => none }
def fnCutOfRow : OpenClaim := { program := "ytkcfclkpbmeaiaa", sum := "7a7fd56ff8b1b3d7a65b2bac24e0d2d8934a3d61e1a4b457ba3348433fb75ebb", func := "loop.example/cableship/laws.FnCutOf", spec := "fnCutOf", unfollowed := true, recurses := true, apart := false }
def FnCutOfSaid : Prop := fnCutOfRow.holds Try.pinned (OpenSpec.ofChange fnCutOfSpec)

/-- ITS FALSE NEIGHBOUR: 'it returns false'. Refute it at one input. -/
def fnCutOfWrong : ChangeSpec := { name := "fnCutOf", fn := fun _ => fun
  | [d] => { results := [.lit (.bool false)], args := [d] }
  | _ => none }
def FnCutOfWrongFalsely : Prop := fnCutOfRow.holds Try.pinned (OpenSpec.ofChange fnCutOfWrong)

/-- 'laws.FnLoadAdd': WHATEVER THE INPUT: true; the input reads as it did. -/
def fnLoadAddSpec : ChangeSpec := { name := "fnLoadAdd", fn := fun _ => fun
  | [d] => { results := [.lit (.bool true)], args := [d] }
  | _ => none }
def fnLoadAddRow : OpenClaim := { program := "ytkcfclkpbmeaiaa", sum := "7a7fd56ff8b1b3d7a65b2bac24e0d2d8934a3d61e1a4b457ba3348433fb75ebb", func := "loop.example/cableship/laws.FnLoadAdd", spec := "fnLoadAdd", apart := false }
def FnLoadAddSaid : Prop := fnLoadAddRow.holds Try.pinned (OpenSpec.ofChange fnLoadAddSpec)

/-- ITS FALSE NEIGHBOUR: 'it returns false'. Refute it at one input. -/
def fnLoadAddWrong : ChangeSpec := { name := "fnLoadAdd", fn := fun _ => fun
  | [d] => { results := [.lit (.bool false)], args := [d] }
  | _ => none }
def FnLoadAddWrongFalsely : Prop := fnLoadAddRow.holds Try.pinned (OpenSpec.ofChange fnLoadAddWrong)

/-- 'laws.FnTree': WHATEVER THE INPUT: true; the input reads as it did. -/
def fnTreeSpec : ChangeSpec := { name := "fnTree", fn := fun _ => fun
  | [d1, d2] => { results := [.lit (.bool true)], args := [d1, d2] }
  | _ => none }
def fnTreeRow : OpenClaim := { program := "ytkcfclkpbmeaiaa", sum := "7a7fd56ff8b1b3d7a65b2bac24e0d2d8934a3d61e1a4b457ba3348433fb75ebb", func := "loop.example/cableship/laws.FnTree", spec := "fnTree", apart := false }
def FnTreeSaid : Prop := fnTreeRow.holds Try.pinned (OpenSpec.ofChange fnTreeSpec)

/-- ITS FALSE NEIGHBOUR: 'it returns false'. Refute it at one input. -/
def fnTreeWrong : ChangeSpec := { name := "fnTree", fn := fun _ => fun
  | [d1, d2] => { results := [.lit (.bool false)], args := [d1, d2] }
  | _ => none }
def FnTreeWrongFalsely : Prop := fnTreeRow.holds Try.pinned (OpenSpec.ofChange fnTreeWrong)

/-- 'laws.FnCutLeast': WHATEVER THE INPUT: true; the input reads as it did. -/
def fnCutLeastSpec : ChangeSpec := { name := "fnCutLeast", fn := fun _ => fun
  | [d] => { results := [.lit (.bool true)], args := [d] }
  | _ => none }
def fnCutLeastRow : OpenClaim := { program := "ytkcfclkpbmeaiaa", sum := "7a7fd56ff8b1b3d7a65b2bac24e0d2d8934a3d61e1a4b457ba3348433fb75ebb", func := "loop.example/cableship/laws.FnCutLeast", spec := "fnCutLeast", unfollowed := true, recurses := true, apart := false }
def FnCutLeastSaid : Prop := fnCutLeastRow.holds Try.pinned (OpenSpec.ofChange fnCutLeastSpec)

/-- ITS FALSE NEIGHBOUR: 'it returns false'. Refute it at one input. -/
def fnCutLeastWrong : ChangeSpec := { name := "fnCutLeast", fn := fun _ => fun
  | [d] => { results := [.lit (.bool false)], args := [d] }
  | _ => none }
def FnCutLeastWrongFalsely : Prop := fnCutLeastRow.holds Try.pinned (OpenSpec.ofChange fnCutLeastWrong)

/-- 'laws.FnTrafficLoad': WHATEVER THE INPUT: true; the input reads as it did. -/
def fnTrafficLoadSpec : ChangeSpec := { name := "fnTrafficLoad", fn := fun _ => fun
  | [d] => { results := [.lit (.bool true)], args := [d] }
  | _ => none }
def fnTrafficLoadRow : OpenClaim := { program := "ytkcfclkpbmeaiaa", sum := "7a7fd56ff8b1b3d7a65b2bac24e0d2d8934a3d61e1a4b457ba3348433fb75ebb", func := "loop.example/cableship/laws.FnTrafficLoad", spec := "fnTrafficLoad", apart := false }
def FnTrafficLoadSaid : Prop := fnTrafficLoadRow.holds Try.pinned (OpenSpec.ofChange fnTrafficLoadSpec)

/-- ITS FALSE NEIGHBOUR: 'it returns false'. Refute it at one input. -/
def fnTrafficLoadWrong : ChangeSpec := { name := "fnTrafficLoad", fn := fun _ => fun
  | [d] => { results := [.lit (.bool false)], args := [d] }
  | _ => none }
def FnTrafficLoadWrongFalsely : Prop := fnTrafficLoadRow.holds Try.pinned (OpenSpec.ofChange fnTrafficLoadWrong)

/-- 'laws.FnMostTraffic': WHATEVER THE INPUT: true; the input reads as it did. -/
def fnMostTrafficSpec : ChangeSpec := { name := "fnMostTraffic", fn := fun _ => fun
  | [d] => { results := [.lit (.bool true)], args := [d] }
  | _ => none }
def fnMostTrafficRow : OpenClaim := { program := "ytkcfclkpbmeaiaa", sum := "7a7fd56ff8b1b3d7a65b2bac24e0d2d8934a3d61e1a4b457ba3348433fb75ebb", func := "loop.example/cableship/laws.FnMostTraffic", spec := "fnMostTraffic", unfollowed := true, recurses := true, apart := false }
def FnMostTrafficSaid : Prop := fnMostTrafficRow.holds Try.pinned (OpenSpec.ofChange fnMostTrafficSpec)

/-- ITS FALSE NEIGHBOUR: 'it returns false'. Refute it at one input. -/
def fnMostTrafficWrong : ChangeSpec := { name := "fnMostTraffic", fn := fun _ => fun
  | [d] => { results := [.lit (.bool false)], args := [d] }
  | _ => none }
def FnMostTrafficWrongFalsely : Prop := fnMostTrafficRow.holds Try.pinned (OpenSpec.ofChange fnMostTrafficWrong)

/-- 'laws.FnLoadTraffic': WHATEVER THE INPUT: true; the input reads as it did. -/
def fnLoadTrafficSpec : ChangeSpec := { name := "fnLoadTraffic", fn := fun _ => fun
  | [d1, d2] => { results := [.lit (.bool true)], args := [d1, d2] }
  | _ => none }
def fnLoadTrafficRow : OpenClaim := { program := "ytkcfclkpbmeaiaa", sum := "7a7fd56ff8b1b3d7a65b2bac24e0d2d8934a3d61e1a4b457ba3348433fb75ebb", func := "loop.example/cableship/laws.FnLoadTraffic", spec := "fnLoadTraffic", unfollowed := true, recurses := true, apart := false }
def FnLoadTrafficSaid : Prop := fnLoadTrafficRow.holds Try.pinned (OpenSpec.ofChange fnLoadTrafficSpec)

/-- ITS FALSE NEIGHBOUR: 'it returns false'. Refute it at one input. -/
def fnLoadTrafficWrong : ChangeSpec := { name := "fnLoadTraffic", fn := fun _ => fun
  | [d1, d2] => { results := [.lit (.bool false)], args := [d1, d2] }
  | _ => none }
def FnLoadTrafficWrongFalsely : Prop := fnLoadTrafficRow.holds Try.pinned (OpenSpec.ofChange fnLoadTrafficWrong)

/-- 'laws.FnWeakest': WHATEVER THE INPUT: true; the input reads as it did. -/
def fnWeakestSpec : ChangeSpec := { name := "fnWeakest", fn := fun _ => fun
  | [d] => { results := [.lit (.bool true)], args := [d] }
  | _ => none }
def fnWeakestRow : OpenClaim := { program := "ytkcfclkpbmeaiaa", sum := "7a7fd56ff8b1b3d7a65b2bac24e0d2d8934a3d61e1a4b457ba3348433fb75ebb", func := "loop.example/cableship/laws.FnWeakest", spec := "fnWeakest", apart := false }
def FnWeakestSaid : Prop := fnWeakestRow.holds Try.pinned (OpenSpec.ofChange fnWeakestSpec)

/-- ITS FALSE NEIGHBOUR: 'it returns false'. Refute it at one input. -/
def fnWeakestWrong : ChangeSpec := { name := "fnWeakest", fn := fun _ => fun
  | [d] => { results := [.lit (.bool false)], args := [d] }
  | _ => none }
def FnWeakestWrongFalsely : Prop := fnWeakestRow.holds Try.pinned (OpenSpec.ofChange fnWeakestWrong)

/-- 'laws.FnNeededLines': WHATEVER THE INPUT: true; the input reads as it did. -/
def fnNeededLinesSpec : ChangeSpec := { name := "fnNeededLines", fn := fun _ => fun
  | [d] => { results := [.lit (.bool true)], args := [d] }
  | _ => none }
def fnNeededLinesRow : OpenClaim := { program := "ytkcfclkpbmeaiaa", sum := "7a7fd56ff8b1b3d7a65b2bac24e0d2d8934a3d61e1a4b457ba3348433fb75ebb", func := "loop.example/cableship/laws.FnNeededLines", spec := "fnNeededLines", apart := false }
def FnNeededLinesSaid : Prop := fnNeededLinesRow.holds Try.pinned (OpenSpec.ofChange fnNeededLinesSpec)

/-- ITS FALSE NEIGHBOUR: 'it returns false'. Refute it at one input. -/
def fnNeededLinesWrong : ChangeSpec := { name := "fnNeededLines", fn := fun _ => fun
  | [d] => { results := [.lit (.bool false)], args := [d] }
  | _ => none }
def FnNeededLinesWrongFalsely : Prop := fnNeededLinesRow.holds Try.pinned (OpenSpec.ofChange fnNeededLinesWrong)

/- THE SECOND FORM. 'bulk': how many values and letters a reading holds, each counted each time it is reached (what is shared counts as often as it is met; a slice's spare places count too). A statement '..UptoSaid' is the law's where the arguments, and the package variables that the reading takes, are together of bulk at most 1048576: NARROWER than '..Said'. Prove '..Said' where nothing that the law and all that it calls make is longer than what came in: it says more and counts as full. Else prove '..UptoSaid'. A law counts once. -/
mutual
def uptoBulk {H : Type} : DataW H → Nat
  | .lit (.string bytes) => bytes.length + 1
  | .lit _ => 1
  | .nil => 1
  | .ptr d => uptoBulk d + 1
  | .slice elems spare => uptoBulkAll elems + uptoBulkAll spare + 1
  | .agg parts => uptoBulkAll parts + 1
  | .iface _ d => uptoBulk d + 1
  | .map entries => uptoBulkEntries entries + 1
  | .held _ => 1
def uptoBulkAll {H : Type} : List (DataW H) → Nat
  | [] => 0
  | d :: r => uptoBulk d + uptoBulkAll r
def uptoBulkEntries {H : Type} : List (Lit × DataW H) → Nat
  | [] => 0
  | x :: r => uptoBulkEntry x + uptoBulkEntries r
def uptoBulkEntry {H : Type} : Lit × DataW H → Nat
  | (.string bytes, d) => bytes.length + uptoBulk d + 1
  | (_, d) => uptoBulk d + 1
 end
def uptoSmall : (H : Type) → List (DataW H) → Bool := fun _ ds => decide (uptoBulkAll ds ≤ 1048576)
def OpenSpec.upto (s : _root_.Go.ChangeSpec) : _root_.Go.OpenSpec := { _root_.Go.OpenSpec.ofChange s with cond := some uptoSmall }

/-- 'laws.FnLoad', WHERE WHAT IT READS IS OF BULK AT MOST 1048576: true; the input reads as it did. -/
def fnLoadUptoRow : OpenClaim := { program := "ytkcfclkpbmeaiaa", sum := "7a7fd56ff8b1b3d7a65b2bac24e0d2d8934a3d61e1a4b457ba3348433fb75ebb", func := "loop.example/cableship/laws.FnLoad", spec := "fnLoad", apart := false, narrowed := true }
def FnLoadUptoSaid : Prop := fnLoadUptoRow.holds Try.pinned (OpenSpec.upto fnLoadSpec)

/-- 'laws.FnWithout', WHERE WHAT IT READS IS OF BULK AT MOST 1048576: true; the input reads as it did. -/
def fnWithoutUptoRow : OpenClaim := { program := "ytkcfclkpbmeaiaa", sum := "7a7fd56ff8b1b3d7a65b2bac24e0d2d8934a3d61e1a4b457ba3348433fb75ebb", func := "loop.example/cableship/laws.FnWithout", spec := "fnWithout", apart := false, narrowed := true }
def FnWithoutUptoSaid : Prop := fnWithoutUptoRow.holds Try.pinned (OpenSpec.upto fnWithoutSpec)

/-- 'laws.FnCutOf', WHERE WHAT IT READS IS OF BULK AT MOST 1048576: true; the input reads as it did. -/
def fnCutOfUptoRow : OpenClaim := { program := "ytkcfclkpbmeaiaa", sum := "7a7fd56ff8b1b3d7a65b2bac24e0d2d8934a3d61e1a4b457ba3348433fb75ebb", func := "loop.example/cableship/laws.FnCutOf", spec := "fnCutOf", unfollowed := true, recurses := true, apart := false, narrowed := true }
def FnCutOfUptoSaid : Prop := fnCutOfUptoRow.holds Try.pinned (OpenSpec.upto fnCutOfSpec)

/-- 'laws.FnLoadAdd', WHERE WHAT IT READS IS OF BULK AT MOST 1048576: true; the input reads as it did. -/
def fnLoadAddUptoRow : OpenClaim := { program := "ytkcfclkpbmeaiaa", sum := "7a7fd56ff8b1b3d7a65b2bac24e0d2d8934a3d61e1a4b457ba3348433fb75ebb", func := "loop.example/cableship/laws.FnLoadAdd", spec := "fnLoadAdd", apart := false, narrowed := true }
def FnLoadAddUptoSaid : Prop := fnLoadAddUptoRow.holds Try.pinned (OpenSpec.upto fnLoadAddSpec)

/-- 'laws.FnTree', WHERE WHAT IT READS IS OF BULK AT MOST 1048576: true; the input reads as it did. -/
def fnTreeUptoRow : OpenClaim := { program := "ytkcfclkpbmeaiaa", sum := "7a7fd56ff8b1b3d7a65b2bac24e0d2d8934a3d61e1a4b457ba3348433fb75ebb", func := "loop.example/cableship/laws.FnTree", spec := "fnTree", apart := false, narrowed := true }
def FnTreeUptoSaid : Prop := fnTreeUptoRow.holds Try.pinned (OpenSpec.upto fnTreeSpec)

/-- 'laws.FnCutLeast', WHERE WHAT IT READS IS OF BULK AT MOST 1048576: true; the input reads as it did. -/
def fnCutLeastUptoRow : OpenClaim := { program := "ytkcfclkpbmeaiaa", sum := "7a7fd56ff8b1b3d7a65b2bac24e0d2d8934a3d61e1a4b457ba3348433fb75ebb", func := "loop.example/cableship/laws.FnCutLeast", spec := "fnCutLeast", unfollowed := true, recurses := true, apart := false, narrowed := true }
def FnCutLeastUptoSaid : Prop := fnCutLeastUptoRow.holds Try.pinned (OpenSpec.upto fnCutLeastSpec)

/-- 'laws.FnTrafficLoad', WHERE WHAT IT READS IS OF BULK AT MOST 1048576: true; the input reads as it did. -/
def fnTrafficLoadUptoRow : OpenClaim := { program := "ytkcfclkpbmeaiaa", sum := "7a7fd56ff8b1b3d7a65b2bac24e0d2d8934a3d61e1a4b457ba3348433fb75ebb", func := "loop.example/cableship/laws.FnTrafficLoad", spec := "fnTrafficLoad", apart := false, narrowed := true }
def FnTrafficLoadUptoSaid : Prop := fnTrafficLoadUptoRow.holds Try.pinned (OpenSpec.upto fnTrafficLoadSpec)

/-- 'laws.FnMostTraffic', WHERE WHAT IT READS IS OF BULK AT MOST 1048576: true; the input reads as it did. -/
def fnMostTrafficUptoRow : OpenClaim := { program := "ytkcfclkpbmeaiaa", sum := "7a7fd56ff8b1b3d7a65b2bac24e0d2d8934a3d61e1a4b457ba3348433fb75ebb", func := "loop.example/cableship/laws.FnMostTraffic", spec := "fnMostTraffic", unfollowed := true, recurses := true, apart := false, narrowed := true }
def FnMostTrafficUptoSaid : Prop := fnMostTrafficUptoRow.holds Try.pinned (OpenSpec.upto fnMostTrafficSpec)

/-- 'laws.FnLoadTraffic', WHERE WHAT IT READS IS OF BULK AT MOST 1048576: true; the input reads as it did. -/
def fnLoadTrafficUptoRow : OpenClaim := { program := "ytkcfclkpbmeaiaa", sum := "7a7fd56ff8b1b3d7a65b2bac24e0d2d8934a3d61e1a4b457ba3348433fb75ebb", func := "loop.example/cableship/laws.FnLoadTraffic", spec := "fnLoadTraffic", unfollowed := true, recurses := true, apart := false, narrowed := true }
def FnLoadTrafficUptoSaid : Prop := fnLoadTrafficUptoRow.holds Try.pinned (OpenSpec.upto fnLoadTrafficSpec)

/-- 'laws.FnWeakest', WHERE WHAT IT READS IS OF BULK AT MOST 1048576: true; the input reads as it did. -/
def fnWeakestUptoRow : OpenClaim := { program := "ytkcfclkpbmeaiaa", sum := "7a7fd56ff8b1b3d7a65b2bac24e0d2d8934a3d61e1a4b457ba3348433fb75ebb", func := "loop.example/cableship/laws.FnWeakest", spec := "fnWeakest", apart := false, narrowed := true }
def FnWeakestUptoSaid : Prop := fnWeakestUptoRow.holds Try.pinned (OpenSpec.upto fnWeakestSpec)

/-- 'laws.FnNeededLines', WHERE WHAT IT READS IS OF BULK AT MOST 1048576: true; the input reads as it did. -/
def fnNeededLinesUptoRow : OpenClaim := { program := "ytkcfclkpbmeaiaa", sum := "7a7fd56ff8b1b3d7a65b2bac24e0d2d8934a3d61e1a4b457ba3348433fb75ebb", func := "loop.example/cableship/laws.FnNeededLines", spec := "fnNeededLines", apart := false, narrowed := true }
def FnNeededLinesUptoSaid : Prop := fnNeededLinesUptoRow.holds Try.pinned (OpenSpec.upto fnNeededLinesSpec)

end Rows
end Go.Proofs.Ytkcfclkpbmeaiaa
