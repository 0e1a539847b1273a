/- Laws of the kind 'the program answers as the reference does', walked (these lines are printed by lawgen.py). -/
import Derived.Test.YtpldkfbglfcidaaDoorSr
import Derived.Test.YtpldkfbglfcidaaDoorIr
namespace Go.Proofs.YtpldkfbglfcidaaDoor
set_option linter.unusedVariables false
set_option linter.unusedSimpArgs false
open Go.RowKit
set_option maxRecDepth 100000 in
theorem walk_ExactSignalRead (a0 : ByteArray) (hs0 : a0.size ≤ maxLen) (w : World)  :
    Calls Tryd.prog 11 #[.string a0] w fun e w' => e = .returned (.bool true) ∧ Below w.heap.size w w' := by
  have hq0 := hs0
  unfold maxLen at hq0
  by_cases hf0 : 1048576 < a0.size
  · go_enter Tryd.func11, Tryd.ntmps11
    go_wp2_with fail
    go_ret
    exact ⟨rfl, Below.refl _ _⟩
  have hn0' : a0.size ≤ 1048576 := by omega
  go_enter Tryd.func11, Tryd.ntmps11
  have hb := Below.refl w.heap.size w
  go_wp2_with fail
  refine (specRd a0 hs0 _).mono ?_
  rintro e w1 ⟨rs, oks, rfl, hRs, hb1⟩
  replace hRs := Lib.hid hRs
  replace hb := hb.trans (hb1.mono hb.size)
  clear hb1
  go_wp2_with fail
  refine (implRd a0 hs0 _).mono ?_
  rintro e w2 ⟨rp, okp, rfl, hRp, hb2⟩
  obtain ⟨e1, e2⟩ := rdR_one _ _ _ _ _ hRs.out hRp
  subst e1 e2
  clear hRp hRs
  replace hb := hb.trans (hb2.mono hb.size)
  clear hb2
  go_wp2_with fail
  go_ret
  exact ⟨rfl, hb⟩
theorem law_ExactSignalRead (a0 : ByteArray) (w0 : a0.size ≤ maxLen) (w : World) :
    Calls Tryd.prog 11 #[.string a0] w fun e w' => e = .returned (.bool true) ∧ Below w.heap.size w w' := by
  exact walk_ExactSignalRead a0 w0 w 
end Go.Proofs.YtpldkfbglfcidaaDoor
