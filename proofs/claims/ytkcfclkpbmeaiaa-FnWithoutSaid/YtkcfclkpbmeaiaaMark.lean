/- The laws' marking of lines. -/
import Derived.Test.YtkcfclkpbmeaiaaLn
import Derived.Test.YtkcfclkpbmeaiaaIm
namespace Go.Proofs.Ytkcfclkpbmeaiaa
set_option linter.unusedVariables false
set_option linter.unusedSimpArgs false
open Go.RowKit
def MarkLPost (K : Int) (n g : Nat) (w : World) (e : Ending) (w' : World) : Prop := e = .returned (.int .i64 (K + 3 * n)) ∧ w.grownBy w' (some g)
end Go.Proofs.Ytkcfclkpbmeaiaa
