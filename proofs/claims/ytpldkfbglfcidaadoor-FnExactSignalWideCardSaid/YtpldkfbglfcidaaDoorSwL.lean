/- Laws of the kind 'the program answers as the reference does', walked (these lines are printed by lawgen.py). -/
import Derived.Test.YtpldkfbglfcidaaDoorSw
namespace Go.Proofs.YtpldkfbglfcidaaDoor
set_option linter.unusedVariables false
set_option linter.unusedSimpArgs false
open Go.RowKit
set_option maxRecDepth 100000 in
theorem walk_ExactSignalWide (a0 : ByteArray) (hs0 : a0.size ≤ maxLen) (w : World)  :
    Calls Tryd.prog 8 #[.string a0] w fun e w' => e = .returned (.bool true) ∧ Below w.heap.size w w' := by
  have hq0 := hs0
  unfold maxLen at hq0
  by_cases hf0 : 1048576 < a0.size
  · go_enter Tryd.func8, Tryd.ntmps8
    go_wp2_with fail
    go_ret
    exact ⟨rfl, Below.refl _ _⟩
  have hn0' : a0.size ≤ 1048576 := by omega
  go_enter Tryd.func8, Tryd.ntmps8
  have hb := Below.refl w.heap.size w
  go_wp2_with fail
  refine (specSw a0 hs0 _).mono ?_
  rintro e w1 ⟨rs, rfl, hRs, hb1⟩
  replace hRs := Lib.hid hRs
  replace hb := hb.trans (hb1.mono hb.size)
  clear hb1
  go_wp2_with fail
  refine (implSw a0 hs0 _).mono ?_
  rintro e w2 ⟨rp, rfl, hRp, hb2⟩
  have e1 := eq2 hRs.out hRp
  subst e1
  clear hRp hRs
  replace hb := hb.trans (hb2.mono hb.size)
  clear hb2
  go_wp2_with fail
  go_ret
  exact ⟨rfl, hb⟩
theorem law_ExactSignalWide (a0 : ByteArray) (w0 : a0.size ≤ maxLen) (w : World) :
    Calls Tryd.prog 8 #[.string a0] w fun e w' => e = .returned (.bool true) ∧ Below w.heap.size w w' := by
  exact walk_ExactSignalWide a0 w0 w 
end Go.Proofs.YtpldkfbglfcidaaDoor
