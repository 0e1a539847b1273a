/- Laws of the kind 'the program answers as the reference does', walked (these lines are printed by lawgen.py). -/
import Derived.Test.YtpldkfbglfcidaaDoorSf
namespace Go.Proofs.YtpldkfbglfcidaaDoor
set_option linter.unusedVariables false
set_option linter.unusedSimpArgs false
open Go.RowKit
set_option maxRecDepth 100000 in
theorem walk_ExactSignalFar (a0 : ByteArray) (a1 : ByteArray) (hs0 : a0.size ≤ maxLen) (hs1 : a1.size ≤ maxLen) (w : World)  :
    Calls Tryd.prog 5 #[.string a0, .string a1] w fun e w' => e = .returned (.bool true) ∧ Below w.heap.size w w' := by
  have hq0 := hs0
  unfold maxLen at hq0
  by_cases hf0 : 1048576 < a0.size
  · go_enter Tryd.func5, Tryd.ntmps5
    go_wp2_with fail
    go_ret
    exact ⟨rfl, Below.refl _ _⟩
  have hn0' : a0.size ≤ 1048576 := by omega
  have hq1 := hs1
  unfold maxLen at hq1
  by_cases hf1 : 1048576 < a1.size
  · go_enter Tryd.func5, Tryd.ntmps5
    go_wp2_with fail
    go_ret
    exact ⟨rfl, Below.refl _ _⟩
  have hn1' : a1.size ≤ 1048576 := by omega
  go_enter Tryd.func5, Tryd.ntmps5
  have hb := Below.refl w.heap.size w
  go_wp2_with fail
  refine (specSfB a0 a1 hs0 hs1 _).mono ?_
  rintro e w1 ⟨rs, rfl, hRs, hb1⟩
  replace hRs := Lib.hid hRs
  replace hb := hb.trans (hb1.mono hb.size)
  clear hb1
  go_wp2_with fail
  refine (implSfB a0 a1 hs0 hs1 _).mono ?_
  rintro e w2 ⟨rp, rfl, hRp, hb2⟩
  have e1 := eq2 hRs.out hRp
  subst e1
  clear hRp hRs
  replace hb := hb.trans (hb2.mono hb.size)
  clear hb2
  go_wp2_with fail
  go_ret
  exact ⟨rfl, hb⟩
theorem law_ExactSignalFar (a0 : ByteArray) (a1 : ByteArray) (w0 : a0.size ≤ maxLen) (w1 : a1.size ≤ maxLen) (w : World) :
    Calls Tryd.prog 5 #[.string a0, .string a1] w fun e w' => e = .returned (.bool true) ∧ Below w.heap.size w w' := by
  exact walk_ExactSignalFar a0 a1 w0 w1 w 
end Go.Proofs.YtpldkfbglfcidaaDoor
