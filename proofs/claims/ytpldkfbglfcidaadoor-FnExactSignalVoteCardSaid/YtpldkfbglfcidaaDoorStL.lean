/- Laws of the kind 'the program answers as the reference does', walked (these lines are printed by lawgen.py). -/
import Derived.Test.YtpldkfbglfcidaaDoorSt
import Derived.Test.YtpldkfbglfcidaaDoorStI
namespace Go.Proofs.YtpldkfbglfcidaaDoor
set_option linter.unusedVariables false
set_option linter.unusedSimpArgs false
open Go.RowKit
set_option maxRecDepth 100000 in
theorem walk_ExactSignalVote (a0 : ByteArray) (a1 : ByteArray) (a2 : ByteArray) (hs0 : a0.size ≤ maxLen) (hs1 : a1.size ≤ maxLen) (hs2 : a2.size ≤ maxLen) (w : World)  :
    Calls Tryd.prog 6 #[.string a0, .string a1, .string a2] w fun e w' => e = .returned (.bool true) ∧ Below w.heap.size w w' := by
  have hq0 := hs0
  unfold maxLen at hq0
  by_cases hf0 : 1048576 < a0.size
  · go_enter Tryd.func6, Tryd.ntmps6
    go_wp2_with fail
    go_ret
    exact ⟨rfl, Below.refl _ _⟩
  have hn0' : a0.size ≤ 1048576 := by omega
  have hq1 := hs1
  unfold maxLen at hq1
  by_cases hf1 : 1048576 < a1.size
  · go_enter Tryd.func6, Tryd.ntmps6
    go_wp2_with fail
    go_ret
    exact ⟨rfl, Below.refl _ _⟩
  have hn1' : a1.size ≤ 1048576 := by omega
  have hq2 := hs2
  unfold maxLen at hq2
  by_cases hf2 : 1048576 < a2.size
  · go_enter Tryd.func6, Tryd.ntmps6
    go_wp2_with fail
    go_ret
    exact ⟨rfl, Below.refl _ _⟩
  have hn2' : a2.size ≤ 1048576 := by omega
  go_enter Tryd.func6, Tryd.ntmps6
  have hb := Below.refl w.heap.size w
  go_wp2_with fail
  refine (specSt a0 a1 a2 hs0 hs1 hs2 _).mono ?_
  rintro e w1 ⟨rs, oks, rfl, hRs, hb1⟩
  replace hRs := Lib.hid hRs
  replace hb := hb.trans (hb1.mono hb.size)
  clear hb1
  go_wp2_with fail
  refine (implSt a0 a1 a2 hs0 hs1 hs2 _).mono ?_
  rintro e w2 ⟨rp, okp, rfl, hRp, hb2⟩
  obtain ⟨e1, e2⟩ := voteR_one _ _ _ _ _ _ _ hRs.out hRp
  subst e1 e2
  clear hRp hRs
  replace hb := hb.trans (hb2.mono hb.size)
  clear hb2
  go_wp2_with fail
  go_ret
  exact ⟨rfl, hb⟩
theorem law_ExactSignalVote (a0 : ByteArray) (a1 : ByteArray) (a2 : ByteArray) (w0 : a0.size ≤ maxLen) (w1 : a1.size ≤ maxLen) (w2 : a2.size ≤ maxLen) (w : World) :
    Calls Tryd.prog 6 #[.string a0, .string a1, .string a2] w fun e w' => e = .returned (.bool true) ∧ Below w.heap.size w w' := by
  exact walk_ExactSignalVote a0 a1 a2 w0 w1 w2 w 
end Go.Proofs.YtpldkfbglfcidaaDoor
