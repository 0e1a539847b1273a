/- The law FnExactSignalCode, walked. -/
import Derived.Test.YtjikkadmfgphfaaCode
import Derived.RowKit3
namespace Go.Proofs.Ytjikkadmfgphfaa
set_option linter.unusedVariables false
set_option linter.unusedSimpArgs false
open Go.RowKit
theorem walk_SignalCode (a0 : ByteArray) (w0 : a0.size ≤ maxLen) (w : World) :
    Calls Try.prog 3 #[.string a0] w fun e w' => e = .returned (.bool true) ∧ Grown w w' := by
  go_enter Try.func3, Try.ntmps3
  go_wp2_with (first | (go_at_call 6; refine (specCode _ _).mono ?_; rintro e w' ⟨rfl, rfl⟩) | (go_at_call 7; refine (implCode _ _).mono ?_; rintro e w' ⟨rfl, rfl⟩))
  all_goals (go_ret; exact ⟨rfl, Grown.refl _⟩)
end Go.Proofs.Ytjikkadmfgphfaa
