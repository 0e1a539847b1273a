/- Laws of the kind 'the program answers as the reference does', walked (these lines are printed by lawgen.py). -/
import Derived.Test.YtpldkfbglfcidaaDoorSd2
import Derived.Test.YtpldkfbglfcidaaDoorIm
namespace Go.Proofs.YtpldkfbglfcidaaDoor
set_option linter.unusedVariables false
set_option linter.unusedSimpArgs false
open Go.RowKit
set_option maxRecDepth 100000 in
theorem walk_ExactSignalDrift (a0 : ByteArray) (hs0 : a0.size ≤ maxLen) (w : World)  :
    Calls Tryd.prog 7 #[.string a0] w fun e w' => e = .returned (.bool true) ∧ Below w.heap.size w w' := by
  have hq0 := hs0
  unfold maxLen at hq0
  by_cases hf0 : 1048576 < a0.size
  · go_enter Tryd.func7, Tryd.ntmps7
    go_wp2_with fail
    go_ret
    exact ⟨rfl, Below.refl _ _⟩
  have hn0' : a0.size ≤ 1048576 := by omega
  go_enter Tryd.func7, Tryd.ntmps7
  have hb := Below.refl w.heap.size w
  go_wp2_with fail
  refine (specSd a0 hs0 _).mono ?_
  rintro e w1 ⟨As, cs, xs, oks, rfl, hRs, hIs, hb1⟩
  obtain ⟨hiS, hhiS⟩ : ∃ z, z = w1.heap.size := ⟨_, rfl⟩
  rw [← hhiS] at hIs
  have hles := Nat.le_of_eq hhiS
  clear hhiS
  have hbd := driftR_len hRs
  replace hRs := Lib.hid hRs
  replace hb := hb.trans (hb1.mono hb.size)
  clear hb1
  have hBS := hles
  have hWB := hb.size
  go_wp2_with fail
  refine (implSd a0 hs0 _).mono ?_
  rintro e w2 ⟨Ap, cp, xp, okp, rfl, hRp, hOp, hb2⟩
  obtain ⟨e1, e2⟩ := driftR_one _ _ _ _ _ hRs.out hRp
  subst e1 e2
  clear hRp
  replace hIs := hIs.below hb2 hles
  replace hles := Nat.le_trans hles hb2.size
  replace hb := hb.trans (hb2.mono hb.size)
  clear hb2
  go_wp2_with fail
  refine (eqIntS_same _ _ _ _ _ _ _ _ xs hbd _ hOp.iv hIs).mono ?_
  rintro e w3 ⟨rfl, hb3⟩
  replace hOp := hOp.below hb3
  replace hIs := hIs.below hb3 hles
  replace hles := Nat.le_trans hles hb3.size
  replace hb := hb.trans (hb3.mono hb.size)
  clear hb3
  go_wp2_with fail
  refine (markIntS_any _ _ _ _ xs rfl hbd _ (by omega) (by omega) _ hOp).mono ?_
  rintro e w4 ⟨ym, rfl, hym, hymk, hOm, hgrm⟩
  replace hIs := hIs.own hOp hgrm hBS
  replace hb := hb.grown hgrm hb.size (fun j hj => by have := hOp.block j hj; omega)
  replace hles := Nat.le_trans hles hgrm.size
  clear hgrm hOp
  have hyl : ym.length ≤ 1048576 := by omega
  replace hymk := Lib.hid hymk
  have Hym := Lib.hid hym
  clear hym
  go_wp2_with fail
  refine (held_x Hym.out hyl hymk.out _ hOm).mono ?_
  rintro e w5 ⟨rfl, rfl⟩
  go_wp2_with fail
  refine (implSd a0 hs0 _).mono ?_
  rintro e w5 ⟨Ah, ch, xh, okh, rfl, hRh, hOh, hb5⟩
  obtain ⟨e1, e2⟩ := driftR_one _ _ _ _ _ hRs.out hRh
  subst e1 e2
  clear hRh
  replace hOm := hOm.below hb5
  replace hIs := hIs.below hb5 hles
  replace hles := Nat.le_trans hles hb5.size
  replace hb := hb.trans (hb5.mono hb.size)
  clear hb5
  go_wp2_with fail
  refine (eqIntS_same _ _ _ _ _ _ _ _ xs hbd _ hOh.iv hIs).mono ?_
  rintro e w6 ⟨rfl, hb6⟩
  replace hOm := hOm.below hb6
  replace hOh := hOh.below hb6
  replace hIs := hIs.below hb6 hles
  replace hles := Nat.le_trans hles hb6.size
  replace hb := hb.trans (hb6.mono hb.size)
  clear hb6
  go_wp2_with fail
  refine (held_x Hym.out hyl hymk.out _ hOm).mono ?_
  rintro e w7 ⟨rfl, rfl⟩
  go_wp2_with fail
  go_ret
  exact ⟨rfl, hb⟩
theorem law_ExactSignalDrift (a0 : ByteArray) (w0 : a0.size ≤ maxLen) (w : World) :
    Calls Tryd.prog 7 #[.string a0] w fun e w' => e = .returned (.bool true) ∧ Below w.heap.size w w' := by
  exact walk_ExactSignalDrift a0 w0 w 
end Go.Proofs.YtpldkfbglfcidaaDoor
