/-
  No cell of these rows narrows 'for every input' (looked for: loops, veiled, ifaces, maps, wideKeys, modest, calm, conditions, laid).
  DERIVED. THE GIVEN ROWS OF THIS SEAT. 12 by the template 'for every input the law returns true; each argument reads behind the call as it read before'; 0 by the template 'total and deterministic' (their statements: YtfppgdgbljfpkaaTotals.lean).
  GIVEN WITH THE SEED: the statements are not yours to turn. If you find one false, say at which input.
  Laid BY PROGRAM, IN A SANDBOX (cutbox-rows.mjs): the forced cells as the released guide's own fill.sh prints them over the translation f0efc2fae9175029… (all of the seat's roots in one cut). By AI agents, Wed Nov 11 2026. No macro, syntax, notation, axiom, sorry.
-/
import Derived.Test.YtfppgdgbljfpkaaChecked
import GoSem.Claim
import GoSem.ClaimJoined
import GoSem.ClaimMapViews
import Derived.JoinedTies
import Derived.KernelRfl
namespace Go.Proofs.Ytfppgdgbljfpkaa
/- THE CELL 'sum', in the pinned program and in every row, IS THE sha256 OF THE DUMP (.gsa) THAT YtfppgdgbljfpkaaProg.lean LOADS. Nothing in Lean hashes anything: it is a label: what it is worth is what the hold of that sum in a sandbox is worth. -/
noncomputable def Try.pinned : Pinned := { name := "ytfppgdgbljfpkaa", sum := "f0efc2fae917502983949cc8d9caa74dc813072f5a3632b9193629a3b90b23f6", checked := Try.checked }
namespace Rows
def none {H : Type} : Left H := { results := [], args := [] }

/-- 'laws.FnExactNetValid': WHATEVER THE INPUT: true; the input reads as it did. -/
def fnExactNetValidSpec : ChangeSpec := { name := "fnExactNetValid", fn := fun _ => fun
  | [d1, d2] => { results := [.lit (.bool true)], args := [d1, d2] }
  | _ => none }
def fnExactNetValidRow : OpenClaim := { program := "ytfppgdgbljfpkaa", sum := "f0efc2fae917502983949cc8d9caa74dc813072f5a3632b9193629a3b90b23f6", func := "loop.example/cableship/laws.FnExactNetValid", spec := "fnExactNetValid", apart := false }
def FnExactNetValidSaid : Prop := fnExactNetValidRow.holds Try.pinned (OpenSpec.ofChange fnExactNetValidSpec)

/-- ITS FALSE NEIGHBOUR: 'it returns false'. Refute it at one input. -/
def fnExactNetValidWrong : ChangeSpec := { name := "fnExactNetValid", fn := fun _ => fun
  | [d1, d2] => { results := [.lit (.bool false)], args := [d1, d2] }
  | _ => none }
def FnExactNetValidWrongFalsely : Prop := fnExactNetValidRow.holds Try.pinned (OpenSpec.ofChange fnExactNetValidWrong)

/-- 'laws.FnExactNetWithout': WHATEVER THE INPUT: true; the input reads as it did. -/
def fnExactNetWithoutSpec : ChangeSpec := { name := "fnExactNetWithout", fn := fun _ => fun
  | [d1, d2, d3] => { results := [.lit (.bool true)], args := [d1, d2, d3] }
  | _ => none }
def fnExactNetWithoutRow : OpenClaim := { program := "ytfppgdgbljfpkaa", sum := "f0efc2fae917502983949cc8d9caa74dc813072f5a3632b9193629a3b90b23f6", func := "loop.example/cableship/laws.FnExactNetWithout", spec := "fnExactNetWithout", apart := false }
def FnExactNetWithoutSaid : Prop := fnExactNetWithoutRow.holds Try.pinned (OpenSpec.ofChange fnExactNetWithoutSpec)

/-- ITS FALSE NEIGHBOUR: 'it returns false'. Refute it at one input. -/
def fnExactNetWithoutWrong : ChangeSpec := { name := "fnExactNetWithout", fn := fun _ => fun
  | [d1, d2, d3] => { results := [.lit (.bool false)], args := [d1, d2, d3] }
  | _ => none }
def FnExactNetWithoutWrongFalsely : Prop := fnExactNetWithoutRow.holds Try.pinned (OpenSpec.ofChange fnExactNetWithoutWrong)

/-- 'laws.FnExactLoadValid': WHATEVER THE INPUT: true; the input reads as it did. -/
def fnExactLoadValidSpec : ChangeSpec := { name := "fnExactLoadValid", fn := fun _ => fun
  | [d1, d2, d3, d4, d5] => { results := [.lit (.bool true)], args := [d1, d2, d3, d4, d5] }
  | _ => none }
def fnExactLoadValidRow : OpenClaim := { program := "ytfppgdgbljfpkaa", sum := "f0efc2fae917502983949cc8d9caa74dc813072f5a3632b9193629a3b90b23f6", func := "loop.example/cableship/laws.FnExactLoadValid", spec := "fnExactLoadValid", apart := false }
def FnExactLoadValidSaid : Prop := fnExactLoadValidRow.holds Try.pinned (OpenSpec.ofChange fnExactLoadValidSpec)

/-- ITS FALSE NEIGHBOUR: 'it returns false'. Refute it at one input. -/
def fnExactLoadValidWrong : ChangeSpec := { name := "fnExactLoadValid", fn := fun _ => fun
  | [d1, d2, d3, d4, d5] => { results := [.lit (.bool false)], args := [d1, d2, d3, d4, d5] }
  | _ => none }
def FnExactLoadValidWrongFalsely : Prop := fnExactLoadValidRow.holds Try.pinned (OpenSpec.ofChange fnExactLoadValidWrong)

/-- 'laws.FnExactCutOf': WHATEVER THE INPUT: true; the input reads as it did. -/
def fnExactCutOfSpec : ChangeSpec := { name := "fnExactCutOf", fn := fun _ => fun
  | [d1, d2, d3, d4, d5] => { results := [.lit (.bool true)], args := [d1, d2, d3, d4, d5] }
  | _ => none }
def fnExactCutOfRow : OpenClaim := { program := "ytfppgdgbljfpkaa", sum := "f0efc2fae917502983949cc8d9caa74dc813072f5a3632b9193629a3b90b23f6", func := "loop.example/cableship/laws.FnExactCutOf", spec := "fnExactCutOf", unfollowed := true, recurses := true, apart := false }
def FnExactCutOfSaid : Prop := fnExactCutOfRow.holds Try.pinned (OpenSpec.ofChange fnExactCutOfSpec)

/-- ITS FALSE NEIGHBOUR: 'it returns false'. Refute it at one input. -/
def fnExactCutOfWrong : ChangeSpec := { name := "fnExactCutOf", fn := fun _ => fun
  | [d1, d2, d3, d4, d5] => { results := [.lit (.bool false)], args := [d1, d2, d3, d4, d5] }
  | _ => none }
def FnExactCutOfWrongFalsely : Prop := fnExactCutOfRow.holds Try.pinned (OpenSpec.ofChange fnExactCutOfWrong)

/-- 'laws.FnExactLoadTraffic': WHATEVER THE INPUT: true; the input reads as it did. -/
def fnExactLoadTrafficSpec : ChangeSpec := { name := "fnExactLoadTraffic", fn := fun _ => fun
  | [d1, d2, d3, d4, d5] => { results := [.lit (.bool true)], args := [d1, d2, d3, d4, d5] }
  | _ => none }
def fnExactLoadTrafficRow : OpenClaim := { program := "ytfppgdgbljfpkaa", sum := "f0efc2fae917502983949cc8d9caa74dc813072f5a3632b9193629a3b90b23f6", func := "loop.example/cableship/laws.FnExactLoadTraffic", spec := "fnExactLoadTraffic", apart := false }
def FnExactLoadTrafficSaid : Prop := fnExactLoadTrafficRow.holds Try.pinned (OpenSpec.ofChange fnExactLoadTrafficSpec)

/-- ITS FALSE NEIGHBOUR: 'it returns false'. Refute it at one input. -/
def fnExactLoadTrafficWrong : ChangeSpec := { name := "fnExactLoadTraffic", fn := fun _ => fun
  | [d1, d2, d3, d4, d5] => { results := [.lit (.bool false)], args := [d1, d2, d3, d4, d5] }
  | _ => none }
def FnExactLoadTrafficWrongFalsely : Prop := fnExactLoadTrafficRow.holds Try.pinned (OpenSpec.ofChange fnExactLoadTrafficWrong)

/-- 'laws.FnExactCutLeast': WHATEVER THE INPUT: true; the input reads as it did. -/
def fnExactCutLeastSpec : ChangeSpec := { name := "fnExactCutLeast", fn := fun _ => fun
  | [d1, d2, d3, d4] => { results := [.lit (.bool true)], args := [d1, d2, d3, d4] }
  | _ => none }
def fnExactCutLeastRow : OpenClaim := { program := "ytfppgdgbljfpkaa", sum := "f0efc2fae917502983949cc8d9caa74dc813072f5a3632b9193629a3b90b23f6", func := "loop.example/cableship/laws.FnExactCutLeast", spec := "fnExactCutLeast", apart := false }
def FnExactCutLeastSaid : Prop := fnExactCutLeastRow.holds Try.pinned (OpenSpec.ofChange fnExactCutLeastSpec)

/-- ITS FALSE NEIGHBOUR: 'it returns false'. Refute it at one input. -/
def fnExactCutLeastWrong : ChangeSpec := { name := "fnExactCutLeast", fn := fun _ => fun
  | [d1, d2, d3, d4] => { results := [.lit (.bool false)], args := [d1, d2, d3, d4] }
  | _ => none }
def FnExactCutLeastWrongFalsely : Prop := fnExactCutLeastRow.holds Try.pinned (OpenSpec.ofChange fnExactCutLeastWrong)

/-- 'laws.FnExactLoadAdd': WHATEVER THE INPUT: true; the input reads as it did. -/
def fnExactLoadAddSpec : ChangeSpec := { name := "fnExactLoadAdd", fn := fun _ => fun
  | [d1, d2, d3, d4, d5, d6] => { results := [.lit (.bool true)], args := [d1, d2, d3, d4, d5, d6] }
  | _ => none }
def fnExactLoadAddRow : OpenClaim := { program := "ytfppgdgbljfpkaa", sum := "f0efc2fae917502983949cc8d9caa74dc813072f5a3632b9193629a3b90b23f6", func := "loop.example/cableship/laws.FnExactLoadAdd", spec := "fnExactLoadAdd", apart := false }
def FnExactLoadAddSaid : Prop := fnExactLoadAddRow.holds Try.pinned (OpenSpec.ofChange fnExactLoadAddSpec)

/-- ITS FALSE NEIGHBOUR: 'it returns false'. Refute it at one input. -/
def fnExactLoadAddWrong : ChangeSpec := { name := "fnExactLoadAdd", fn := fun _ => fun
  | [d1, d2, d3, d4, d5, d6] => { results := [.lit (.bool false)], args := [d1, d2, d3, d4, d5, d6] }
  | _ => none }
def FnExactLoadAddWrongFalsely : Prop := fnExactLoadAddRow.holds Try.pinned (OpenSpec.ofChange fnExactLoadAddWrong)

/-- 'laws.FnExactTrafficMost': WHATEVER THE INPUT: true; the input reads as it did. -/
def fnExactTrafficMostSpec : ChangeSpec := { name := "fnExactTrafficMost", fn := fun _ => fun
  | [d1, d2, d3, d4] => { results := [.lit (.bool true)], args := [d1, d2, d3, d4] }
  | _ => none }
def fnExactTrafficMostRow : OpenClaim := { program := "ytfppgdgbljfpkaa", sum := "f0efc2fae917502983949cc8d9caa74dc813072f5a3632b9193629a3b90b23f6", func := "loop.example/cableship/laws.FnExactTrafficMost", spec := "fnExactTrafficMost", apart := false }
def FnExactTrafficMostSaid : Prop := fnExactTrafficMostRow.holds Try.pinned (OpenSpec.ofChange fnExactTrafficMostSpec)

/-- ITS FALSE NEIGHBOUR: 'it returns false'. Refute it at one input. -/
def fnExactTrafficMostWrong : ChangeSpec := { name := "fnExactTrafficMost", fn := fun _ => fun
  | [d1, d2, d3, d4] => { results := [.lit (.bool false)], args := [d1, d2, d3, d4] }
  | _ => none }
def FnExactTrafficMostWrongFalsely : Prop := fnExactTrafficMostRow.holds Try.pinned (OpenSpec.ofChange fnExactTrafficMostWrong)

/-- 'laws.FnExactTrafficLoad': WHATEVER THE INPUT: true; the input reads as it did. -/
def fnExactTrafficLoadSpec : ChangeSpec := { name := "fnExactTrafficLoad", fn := fun _ => fun
  | [d1, d2, d3, d4] => { results := [.lit (.bool true)], args := [d1, d2, d3, d4] }
  | _ => none }
def fnExactTrafficLoadRow : OpenClaim := { program := "ytfppgdgbljfpkaa", sum := "f0efc2fae917502983949cc8d9caa74dc813072f5a3632b9193629a3b90b23f6", func := "loop.example/cableship/laws.FnExactTrafficLoad", spec := "fnExactTrafficLoad", apart := false }
def FnExactTrafficLoadSaid : Prop := fnExactTrafficLoadRow.holds Try.pinned (OpenSpec.ofChange fnExactTrafficLoadSpec)

/-- ITS FALSE NEIGHBOUR: 'it returns false'. Refute it at one input. -/
def fnExactTrafficLoadWrong : ChangeSpec := { name := "fnExactTrafficLoad", fn := fun _ => fun
  | [d1, d2, d3, d4] => { results := [.lit (.bool false)], args := [d1, d2, d3, d4] }
  | _ => none }
def FnExactTrafficLoadWrongFalsely : Prop := fnExactTrafficLoadRow.holds Try.pinned (OpenSpec.ofChange fnExactTrafficLoadWrong)

/-- 'laws.FnExactNetTree': WHATEVER THE INPUT: true; the input reads as it did. -/
def fnExactNetTreeSpec : ChangeSpec := { name := "fnExactNetTree", fn := fun _ => fun
  | [d1, d2] => { results := [.lit (.bool true)], args := [d1, d2] }
  | _ => none }
def fnExactNetTreeRow : OpenClaim := { program := "ytfppgdgbljfpkaa", sum := "f0efc2fae917502983949cc8d9caa74dc813072f5a3632b9193629a3b90b23f6", func := "loop.example/cableship/laws.FnExactNetTree", spec := "fnExactNetTree", apart := false }
def FnExactNetTreeSaid : Prop := fnExactNetTreeRow.holds Try.pinned (OpenSpec.ofChange fnExactNetTreeSpec)

/-- ITS FALSE NEIGHBOUR: 'it returns false'. Refute it at one input. -/
def fnExactNetTreeWrong : ChangeSpec := { name := "fnExactNetTree", fn := fun _ => fun
  | [d1, d2] => { results := [.lit (.bool false)], args := [d1, d2] }
  | _ => none }
def FnExactNetTreeWrongFalsely : Prop := fnExactNetTreeRow.holds Try.pinned (OpenSpec.ofChange fnExactNetTreeWrong)

/-- 'laws.FnExactNetWeakest': WHATEVER THE INPUT: true; the input reads as it did. -/
def fnExactNetWeakestSpec : ChangeSpec := { name := "fnExactNetWeakest", fn := fun _ => fun
  | [d1, d2, d3, d4] => { results := [.lit (.bool true)], args := [d1, d2, d3, d4] }
  | _ => none }
def fnExactNetWeakestRow : OpenClaim := { program := "ytfppgdgbljfpkaa", sum := "f0efc2fae917502983949cc8d9caa74dc813072f5a3632b9193629a3b90b23f6", func := "loop.example/cableship/laws.FnExactNetWeakest", spec := "fnExactNetWeakest", apart := false }
def FnExactNetWeakestSaid : Prop := fnExactNetWeakestRow.holds Try.pinned (OpenSpec.ofChange fnExactNetWeakestSpec)

/-- ITS FALSE NEIGHBOUR: 'it returns false'. Refute it at one input. -/
def fnExactNetWeakestWrong : ChangeSpec := { name := "fnExactNetWeakest", fn := fun _ => fun
  | [d1, d2, d3, d4] => { results := [.lit (.bool false)], args := [d1, d2, d3, d4] }
  | _ => none }
def FnExactNetWeakestWrongFalsely : Prop := fnExactNetWeakestRow.holds Try.pinned (OpenSpec.ofChange fnExactNetWeakestWrong)

/-- 'laws.FnExactNetNeeded': WHATEVER THE INPUT: true; the input reads as it did. -/
def fnExactNetNeededSpec : ChangeSpec := { name := "fnExactNetNeeded", fn := fun _ => fun
  | [d1, d2, d3, d4] => { results := [.lit (.bool true)], args := [d1, d2, d3, d4] }
  | _ => none }
def fnExactNetNeededRow : OpenClaim := { program := "ytfppgdgbljfpkaa", sum := "f0efc2fae917502983949cc8d9caa74dc813072f5a3632b9193629a3b90b23f6", func := "loop.example/cableship/laws.FnExactNetNeeded", spec := "fnExactNetNeeded", apart := false }
def FnExactNetNeededSaid : Prop := fnExactNetNeededRow.holds Try.pinned (OpenSpec.ofChange fnExactNetNeededSpec)

/-- ITS FALSE NEIGHBOUR: 'it returns false'. Refute it at one input. -/
def fnExactNetNeededWrong : ChangeSpec := { name := "fnExactNetNeeded", fn := fun _ => fun
  | [d1, d2, d3, d4] => { results := [.lit (.bool false)], args := [d1, d2, d3, d4] }
  | _ => none }
def FnExactNetNeededWrongFalsely : Prop := fnExactNetNeededRow.holds Try.pinned (OpenSpec.ofChange fnExactNetNeededWrong)

/- THE SECOND FORM. 'bulk': how many values and letters a reading holds, each counted each time it is reached (what is shared counts as often as it is met; a slice's spare places count too). A statement '..UptoSaid' is the law's where the arguments, and the package variables that the reading takes, are together of bulk at most 1048576: NARROWER than '..Said'. Prove '..Said' where nothing that the law and all that it calls make is longer than what came in: it says more and counts as full. Else prove '..UptoSaid'. A law counts once. -/
mutual
def uptoBulk {H : Type} : DataW H → Nat
  | .lit (.string bytes) => bytes.length + 1
  | .lit _ => 1
  | .nil => 1
  | .ptr d => uptoBulk d + 1
  | .slice elems spare => uptoBulkAll elems + uptoBulkAll spare + 1
  | .agg parts => uptoBulkAll parts + 1
  | .iface _ d => uptoBulk d + 1
  | .map entries => uptoBulkEntries entries + 1
  | .held _ => 1
def uptoBulkAll {H : Type} : List (DataW H) → Nat
  | [] => 0
  | d :: r => uptoBulk d + uptoBulkAll r
def uptoBulkEntries {H : Type} : List (Lit × DataW H) → Nat
  | [] => 0
  | x :: r => uptoBulkEntry x + uptoBulkEntries r
def uptoBulkEntry {H : Type} : Lit × DataW H → Nat
  | (.string bytes, d) => bytes.length + uptoBulk d + 1
  | (_, d) => uptoBulk d + 1
 end
def uptoSmall : (H : Type) → List (DataW H) → Bool := fun _ ds => decide (uptoBulkAll ds ≤ 1048576)
def OpenSpec.upto (s : _root_.Go.ChangeSpec) : _root_.Go.OpenSpec := { _root_.Go.OpenSpec.ofChange s with cond := some uptoSmall }

/-- 'laws.FnExactNetValid', WHERE WHAT IT READS IS OF BULK AT MOST 1048576: true; the input reads as it did. -/
def fnExactNetValidUptoRow : OpenClaim := { program := "ytfppgdgbljfpkaa", sum := "f0efc2fae917502983949cc8d9caa74dc813072f5a3632b9193629a3b90b23f6", func := "loop.example/cableship/laws.FnExactNetValid", spec := "fnExactNetValid", apart := false, narrowed := true }
def FnExactNetValidUptoSaid : Prop := fnExactNetValidUptoRow.holds Try.pinned (OpenSpec.upto fnExactNetValidSpec)

/-- 'laws.FnExactNetWithout', WHERE WHAT IT READS IS OF BULK AT MOST 1048576: true; the input reads as it did. -/
def fnExactNetWithoutUptoRow : OpenClaim := { program := "ytfppgdgbljfpkaa", sum := "f0efc2fae917502983949cc8d9caa74dc813072f5a3632b9193629a3b90b23f6", func := "loop.example/cableship/laws.FnExactNetWithout", spec := "fnExactNetWithout", apart := false, narrowed := true }
def FnExactNetWithoutUptoSaid : Prop := fnExactNetWithoutUptoRow.holds Try.pinned (OpenSpec.upto fnExactNetWithoutSpec)

/-- 'laws.FnExactLoadValid', WHERE WHAT IT READS IS OF BULK AT MOST 1048576: true; the input reads as it did. -/
def fnExactLoadValidUptoRow : OpenClaim := { program := "ytfppgdgbljfpkaa", sum := "f0efc2fae917502983949cc8d9caa74dc813072f5a3632b9193629a3b90b23f6", func := "loop.example/cableship/laws.FnExactLoadValid", spec := "fnExactLoadValid", apart := false, narrowed := true }
def FnExactLoadValidUptoSaid : Prop := fnExactLoadValidUptoRow.holds Try.pinned (OpenSpec.upto fnExactLoadValidSpec)

/-- 'laws.FnExactCutOf', WHERE WHAT IT READS IS OF BULK AT MOST 1048576: true; the input reads as it did. -/
def fnExactCutOfUptoRow : OpenClaim := { program := "ytfppgdgbljfpkaa", sum := "f0efc2fae917502983949cc8d9caa74dc813072f5a3632b9193629a3b90b23f6", func := "loop.example/cableship/laws.FnExactCutOf", spec := "fnExactCutOf", unfollowed := true, recurses := true, apart := false, narrowed := true }
def FnExactCutOfUptoSaid : Prop := fnExactCutOfUptoRow.holds Try.pinned (OpenSpec.upto fnExactCutOfSpec)

/-- 'laws.FnExactLoadTraffic', WHERE WHAT IT READS IS OF BULK AT MOST 1048576: true; the input reads as it did. -/
def fnExactLoadTrafficUptoRow : OpenClaim := { program := "ytfppgdgbljfpkaa", sum := "f0efc2fae917502983949cc8d9caa74dc813072f5a3632b9193629a3b90b23f6", func := "loop.example/cableship/laws.FnExactLoadTraffic", spec := "fnExactLoadTraffic", apart := false, narrowed := true }
def FnExactLoadTrafficUptoSaid : Prop := fnExactLoadTrafficUptoRow.holds Try.pinned (OpenSpec.upto fnExactLoadTrafficSpec)

/-- 'laws.FnExactCutLeast', WHERE WHAT IT READS IS OF BULK AT MOST 1048576: true; the input reads as it did. -/
def fnExactCutLeastUptoRow : OpenClaim := { program := "ytfppgdgbljfpkaa", sum := "f0efc2fae917502983949cc8d9caa74dc813072f5a3632b9193629a3b90b23f6", func := "loop.example/cableship/laws.FnExactCutLeast", spec := "fnExactCutLeast", apart := false, narrowed := true }
def FnExactCutLeastUptoSaid : Prop := fnExactCutLeastUptoRow.holds Try.pinned (OpenSpec.upto fnExactCutLeastSpec)

/-- 'laws.FnExactLoadAdd', WHERE WHAT IT READS IS OF BULK AT MOST 1048576: true; the input reads as it did. -/
def fnExactLoadAddUptoRow : OpenClaim := { program := "ytfppgdgbljfpkaa", sum := "f0efc2fae917502983949cc8d9caa74dc813072f5a3632b9193629a3b90b23f6", func := "loop.example/cableship/laws.FnExactLoadAdd", spec := "fnExactLoadAdd", apart := false, narrowed := true }
def FnExactLoadAddUptoSaid : Prop := fnExactLoadAddUptoRow.holds Try.pinned (OpenSpec.upto fnExactLoadAddSpec)

/-- 'laws.FnExactTrafficMost', WHERE WHAT IT READS IS OF BULK AT MOST 1048576: true; the input reads as it did. -/
def fnExactTrafficMostUptoRow : OpenClaim := { program := "ytfppgdgbljfpkaa", sum := "f0efc2fae917502983949cc8d9caa74dc813072f5a3632b9193629a3b90b23f6", func := "loop.example/cableship/laws.FnExactTrafficMost", spec := "fnExactTrafficMost", apart := false, narrowed := true }
def FnExactTrafficMostUptoSaid : Prop := fnExactTrafficMostUptoRow.holds Try.pinned (OpenSpec.upto fnExactTrafficMostSpec)

/-- 'laws.FnExactTrafficLoad', WHERE WHAT IT READS IS OF BULK AT MOST 1048576: true; the input reads as it did. -/
def fnExactTrafficLoadUptoRow : OpenClaim := { program := "ytfppgdgbljfpkaa", sum := "f0efc2fae917502983949cc8d9caa74dc813072f5a3632b9193629a3b90b23f6", func := "loop.example/cableship/laws.FnExactTrafficLoad", spec := "fnExactTrafficLoad", apart := false, narrowed := true }
def FnExactTrafficLoadUptoSaid : Prop := fnExactTrafficLoadUptoRow.holds Try.pinned (OpenSpec.upto fnExactTrafficLoadSpec)

/-- 'laws.FnExactNetTree', WHERE WHAT IT READS IS OF BULK AT MOST 1048576: true; the input reads as it did. -/
def fnExactNetTreeUptoRow : OpenClaim := { program := "ytfppgdgbljfpkaa", sum := "f0efc2fae917502983949cc8d9caa74dc813072f5a3632b9193629a3b90b23f6", func := "loop.example/cableship/laws.FnExactNetTree", spec := "fnExactNetTree", apart := false, narrowed := true }
def FnExactNetTreeUptoSaid : Prop := fnExactNetTreeUptoRow.holds Try.pinned (OpenSpec.upto fnExactNetTreeSpec)

/-- 'laws.FnExactNetWeakest', WHERE WHAT IT READS IS OF BULK AT MOST 1048576: true; the input reads as it did. -/
def fnExactNetWeakestUptoRow : OpenClaim := { program := "ytfppgdgbljfpkaa", sum := "f0efc2fae917502983949cc8d9caa74dc813072f5a3632b9193629a3b90b23f6", func := "loop.example/cableship/laws.FnExactNetWeakest", spec := "fnExactNetWeakest", apart := false, narrowed := true }
def FnExactNetWeakestUptoSaid : Prop := fnExactNetWeakestUptoRow.holds Try.pinned (OpenSpec.upto fnExactNetWeakestSpec)

/-- 'laws.FnExactNetNeeded', WHERE WHAT IT READS IS OF BULK AT MOST 1048576: true; the input reads as it did. -/
def fnExactNetNeededUptoRow : OpenClaim := { program := "ytfppgdgbljfpkaa", sum := "f0efc2fae917502983949cc8d9caa74dc813072f5a3632b9193629a3b90b23f6", func := "loop.example/cableship/laws.FnExactNetNeeded", spec := "fnExactNetNeeded", apart := false, narrowed := true }
def FnExactNetNeededUptoSaid : Prop := fnExactNetNeededUptoRow.holds Try.pinned (OpenSpec.upto fnExactNetNeededSpec)

end Rows
end Go.Proofs.Ytfppgdgbljfpkaa
