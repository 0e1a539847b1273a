/- Laws of the kind 'the program answers as the reference does', walked (these lines are printed by lawgen.py). -/
import Derived.Test.YtfppgdgbljfpkaaMarkH
import Derived.Test.YtfppgdgbljfpkaaAug
import Derived.Test.YtfppgdgbljfpkaaMark
import Derived.Test.YtfppgdgbljfpkaaArg
namespace Go.Proofs.Ytfppgdgbljfpkaa
set_option linter.unusedVariables false
set_option linter.unusedSimpArgs false
open Go.RowKit
set_option maxRecDepth 100000 in
theorem walk_ExactNetWithout (a0 : Int) (A1 : Option Addr) (c1 : Nat) (x1 : List Ln) (a2 : Int) (hn1 : x1.length ≤ maxLen) (w : World) (hm1 : Lns w w.heap.size A1 x1) :
    Calls Try.prog 4 #[.int .i64 a0, .slice A1 x1.length c1, .int .i64 a2] w fun e w' => e = .returned (.bool true) ∧ Below w.heap.size w w' := by
  have hsz1 := szLineS_any A1 x1.length c1 hn1 1048576 (by omega) (by omega)
  by_cases hbig1 : (1048576 : Int) - x1.length < 0
  · rw [if_pos hbig1] at hsz1
    replace hsz1 := Lib.hid hsz1
    go_enter Try.func4, Try.ntmps4
    go_wp2_with fail
    refine (hsz1.out _).mono ?_
    rintro e w1 ⟨rfl, rfl⟩
    go_wp2_with fail
    go_ret
    exact ⟨rfl, Below.refl _ _⟩
  rw [if_neg hbig1] at hsz1
  replace hsz1 := Lib.hid hsz1
  have hn1' : x1.length ≤ 1048576 := by omega
  go_enter Try.func4, Try.ntmps4
  go_wp2_with fail
  refine (hsz1.out _).mono ?_
  rintro e w1 ⟨rfl, rfl⟩
  have hb := Below.refl w.heap.size w
  go_wp2_with fail
  refine (toLineS_any A1 c1 x1 hn1' _ ((hm1.below hb).more hb.size)).mono ?_
  rintro e w1 ⟨gs1, rfl, hrs1, hgs1, hb1⟩
  clear hgs1
  replace hb := hb.trans (hb1.mono hb.size)
  clear hb1
  go_wp2_with fail
  refine (sNetWithout' a0 _ _ x1 a2 hn1' _ (hrs1.lns hrs1.lt)).mono ?_
  rintro e w2 ⟨As, cs, xs, oks, rfl, hRs, hIs, hb2⟩
  obtain ⟨hiS, hhiS⟩ : ∃ z, z = w2.heap.size := ⟨_, rfl⟩
  rw [← hhiS] at hIs
  have hles := Nat.le_of_eq hhiS
  clear hhiS
  have hbd := WoutR_len hRs
  replace hRs := Lib.hid hRs
  clear hrs1
  replace hb := hb.trans (hb2.mono hb.size)
  clear hb2
  go_wp2_with fail
  refine (toLineS_any A1 c1 x1 hn1' _ ((hm1.below hb).more hb.size)).mono ?_
  rintro e w3 ⟨gp1, rfl, hrp1, hgp1, hb3⟩
  have hlo1 := Nat.le_trans hles hgp1
  have hlw1 := Nat.le_trans hb.size hgp1
  clear hgp1
  replace hIs := hIs.below (hb3.mono hles)
  replace hles := Nat.le_trans hles hb3.size
  replace hb := hb.trans (hb3.mono hb.size)
  clear hb3
  have hltp1 := hrp1.lt
  have hBS := hles
  have hWB := hb.size
  go_wp2_with fail
  refine (iNetWithout a0 _ _ x1 a2 hn1' _ (hrp1.lns hrp1.lt)).mono ?_
  rintro e w4 ⟨Ap, cp, xp, okp, rfl, hRp, hOp, hb4⟩
  obtain ⟨e1, e2⟩ := WoutR_fn _ _ _ _ hRs.out hRp
  subst e1 e2
  clear hRp
  replace hrp1 := hrp1.below hb4 hrp1.lt
  replace hIs := hIs.below (hb4.mono hles)
  replace hles := Nat.le_trans hles hb4.size
  replace hb := hb.trans (hb4.mono hb.size)
  clear hb4
  go_wp2_with fail
  refine (eqLineS_same _ _ _ _ xs hbd _ hOp.lns (hIs.more hles)).mono ?_
  rintro e w5 ⟨rfl, hb5⟩
  replace hrp1 := hrp1.below hb5 hrp1.lt
  replace hOp := hOp.below hb5
  replace hIs := hIs.below (hb5.mono hles)
  replace hles := Nat.le_trans hles hb5.size
  replace hb := hb.trans (hb5.mono hb.size)
  clear hb5
  go_wp2_with fail
  refine (toLineS_any A1 c1 x1 hn1' _ ((hm1.below hb).more hb.size)).mono ?_
  rintro e w6 ⟨g1, rfl, hr1, hg1, hb6⟩
  replace hrp1 := hrp1.below hb6 hrp1.lt
  replace hOp := hOp.below hb6
  replace hIs := hIs.below (hb6.mono hles)
  replace hles := Nat.le_trans hles hb6.size
  replace hb := hb.trans (hb6.mono hb.size)
  clear hb6
  go_wp2_with fail
  refine (eqLineS_same _ _ _ _ x1 hn1' _ (hrp1.lns hrp1.lt) (hr1.lns hr1.lt)).mono ?_
  rintro e w7 ⟨rfl, hb7⟩
  clear hr1 hg1
  replace hrp1 := hrp1.below hb7 hrp1.lt
  replace hOp := hOp.below hb7
  replace hIs := hIs.below (hb7.mono hles)
  replace hles := Nat.le_trans hles hb7.size
  replace hb := hb.trans (hb7.mono hb.size)
  clear hb7
  go_wp2_with fail
  refine (markLineS_any _ _ x1 hn1' _ (by omega) (by omega) _ hrp1).mono ?_
  rintro e w8 ⟨rfl, hgrm⟩
  replace hIs := hIs.below (below_grown hgrm hlo1 hles)
  replace hOp := hOp.kept hgrm (fun j hj => by injection hj with hj; omega)
  replace hb := hb.grown hgrm hb.size (fun j hj => by injection hj with hj; omega)
  replace hles := Nat.le_trans hles hgrm.size
  clear hgrm hrp1
  go_wp2_with fail
  refine (eqLineS_same _ _ _ _ xs hbd _ hOp.lns (hIs.more hles)).mono ?_
  rintro e w9 ⟨rfl, hb9⟩
  replace hOp := hOp.below hb9
  replace hIs := hIs.below (hb9.mono hles)
  replace hles := Nat.le_trans hles hb9.size
  replace hb := hb.trans (hb9.mono hb.size)
  clear hb9
  go_wp2_with fail
  refine (markHL _ _ _ xs hbd _ (by omega) (by omega) _ hOp).mono ?_
  rintro e w10 ⟨rfl, hOm, hbm⟩
  replace hIs := hIs.below (hbm.mono hBS)
  replace hb := hb.trans (hbm.mono hWB)
  replace hles := Nat.le_trans hles hbm.size
  clear hbm hOp
  go_wp2_with fail
  refine (heldHL _ _ _ xs.length hbd _ (by omega) (by omega) _ hOm.lns).mono ?_
  rintro e w11 ⟨rfl, rfl⟩
  go_wp2_with fail
  refine (toLineS_any A1 c1 x1 hn1' _ ((hm1.below hb).more hb.size)).mono ?_
  rintro e w11 ⟨gh1, rfl, hrh1, hgh1, hb11⟩
  clear hgh1
  replace hOm := hOm.below hb11
  replace hIs := hIs.below (hb11.mono hles)
  replace hles := Nat.le_trans hles hb11.size
  replace hb := hb.trans (hb11.mono hb.size)
  clear hb11
  go_wp2_with fail
  refine (iNetWithout a0 _ _ x1 a2 hn1' _ (hrh1.lns hrh1.lt)).mono ?_
  rintro e w12 ⟨Ah, ch, xh, okh, rfl, hRh, hOh, hb12⟩
  obtain ⟨e1, e2⟩ := WoutR_fn _ _ _ _ hRs.out hRh
  subst e1 e2
  clear hRh
  clear hrh1
  replace hOm := hOm.below hb12
  replace hIs := hIs.below (hb12.mono hles)
  replace hles := Nat.le_trans hles hb12.size
  replace hb := hb.trans (hb12.mono hb.size)
  clear hb12
  go_wp2_with fail
  refine (eqLineS_same _ _ _ _ xs hbd _ hOh.lns (hIs.more hles)).mono ?_
  rintro e w13 ⟨rfl, hb13⟩
  replace hOm := hOm.below hb13
  replace hOh := hOh.below hb13
  replace hIs := hIs.below (hb13.mono hles)
  replace hles := Nat.le_trans hles hb13.size
  replace hb := hb.trans (hb13.mono hb.size)
  clear hb13
  go_wp2_with fail
  refine (heldHL _ _ _ xs.length hbd _ (by omega) (by omega) _ hOm.lns).mono ?_
  rintro e w14 ⟨rfl, rfl⟩
  go_wp2_with fail
  go_ret
  exact ⟨rfl, hb⟩
theorem law_ExactNetWithout (a0 : Int) (a1 : Option Addr) (len1 cap1 : Nat) (z1 : List Ln) (a2 : Int) (w : World) (_w0 : (Lit.int .i64 a0).wf = true) (w1 : ArgL w a1 len1 cap1 z1) (_w2 : (Lit.int .i64 a2).wf = true) :
    Calls Try.prog 4 #[.int .i64 a0, .slice a1 len1 cap1, .int .i64 a2] w fun e w' => e = .returned (.bool true) ∧ Below w.heap.size w w' := by
  obtain ⟨rfl, hl1, hm1⟩ := w1
  exact walk_ExactNetWithout a0 a1 cap1 z1 a2 hl1 w hm1
end Go.Proofs.Ytfppgdgbljfpkaa
