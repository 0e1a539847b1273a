/- Laws of the kind 'the program answers as the reference does', walked (these lines are printed by lawgen.py). -/
import Derived.Test.YtglncadfmomamaaRs
import Derived.Test.YtglncadfmomamaaIm
import Derived.Test.YtglncadfmomamaaArgJ
import Derived.Test.YtglncadfmomamaaMarkJ
namespace Go.Proofs.Ytglncadfmomamaa
set_option linter.unusedVariables false
set_option linter.unusedSimpArgs false
open Go.RowKit
set_option maxRecDepth 100000 in
theorem walk_ExactPlanRate (a0 : ByteArray) (A1 : Option Addr) (c1 : Nat) (x1 : List Jb) (hs0 : a0.size ≤ maxLen) (hn1 : x1.length ≤ maxLen) (w : World) (hm1 : Jbs w w.heap.size A1 x1) :
    Calls Try.prog 15 #[.string a0, .slice A1 x1.length c1] w fun e w' => e = .returned (.bool true) ∧ Below w.heap.size w w' := by
  have hq0 := hs0
  unfold maxLen at hq0
  by_cases hf0 : 1048576 < a0.size
  · go_enter Try.func15, Try.ntmps15
    go_wp2_with fail
    go_ret
    exact ⟨rfl, Below.refl _ _⟩
  have hn0' : a0.size ≤ 1048576 := by omega
  have hsz1 := szJobS_any A1 x1.length c1 hn1 1048576 (by omega) (by omega)
  by_cases hbig1 : (1048576 : Int) - x1.length < 0
  · rw [if_pos hbig1] at hsz1
    replace hsz1 := Lib.hid hsz1
    go_enter Try.func15, Try.ntmps15
    go_wp2_with fail
    refine (hsz1.out _).mono ?_
    rintro e w1 ⟨rfl, rfl⟩
    go_wp2_with fail
    go_ret
    exact ⟨rfl, Below.refl _ _⟩
  rw [if_neg hbig1] at hsz1
  replace hsz1 := Lib.hid hsz1
  have hn1' : x1.length ≤ 1048576 := by omega
  go_enter Try.func15, Try.ntmps15
  go_wp2_with fail
  refine (hsz1.out _).mono ?_
  rintro e w1 ⟨rfl, rfl⟩
  have hb := Below.refl w.heap.size w
  go_wp2_with fail
  refine (toJobS_any A1 c1 x1 hn1' _ ((hm1.below hb).more hb.size)).mono ?_
  rintro e w1 ⟨gs1, rfl, hrs1, hgs1, hb1⟩
  clear hgs1
  replace hb := hb.trans (hb1.mono hb.size)
  clear hb1
  go_wp2_with fail
  refine (specPlanRateP a0 _ _ x1 hs0 hn1' _ (hrs1.jbs hrs1.lt)).mono ?_
  rintro e w2 ⟨As, cs, xs, oks, rfl, hRs, hIs, hb2⟩
  obtain ⟨hiS, hhiS⟩ : ∃ z, z = w2.heap.size := ⟨_, rfl⟩
  rw [← hhiS] at hIs
  have hles := Nat.le_of_eq hhiS
  clear hhiS
  have hbd := rateR_len hn1' hRs
  replace hRs := Lib.hid hRs
  clear hrs1
  replace hb := hb.trans (hb2.mono hb.size)
  clear hb2
  go_wp2_with fail
  refine (toJobS_any A1 c1 x1 hn1' _ ((hm1.below hb).more hb.size)).mono ?_
  rintro e w3 ⟨gp1, rfl, hrp1, hgp1, hb3⟩
  have hlo1 := Nat.le_trans hles hgp1
  have hlw1 := Nat.le_trans hb.size hgp1
  clear hgp1
  replace hIs := hIs.below hb3 hles
  replace hles := Nat.le_trans hles hb3.size
  replace hb := hb.trans (hb3.mono hb.size)
  clear hb3
  have hltp1 := hrp1.lt
  have hBS := hles
  go_wp2_with fail
  refine (implPlanRate a0 _ _ x1 hs0 hn1' _ (hrp1.jbs hrp1.lt)).mono ?_
  rintro e w4 ⟨Ap, cp, xp, okp, rfl, hRp, hOp, hb4⟩
  obtain ⟨e1, e2⟩ := rateR_one _ _ _ _ _ _ hRs.out hRp
  subst e1 e2
  clear hRp
  replace hrp1 := hrp1.below hb4 hrp1.lt
  replace hIs := hIs.below hb4 hles
  replace hles := Nat.le_trans hles hb4.size
  replace hb := hb.trans (hb4.mono hb.size)
  clear hb4
  go_wp2_with fail
  refine (eqIntS_same _ _ _ _ _ _ _ _ xs hbd _ hOp.iv hIs).mono ?_
  rintro e w5 ⟨rfl, hb5⟩
  replace hrp1 := hrp1.below hb5 hrp1.lt
  replace hOp := hOp.below hb5
  replace hIs := hIs.below hb5 hles
  replace hles := Nat.le_trans hles hb5.size
  replace hb := hb.trans (hb5.mono hb.size)
  clear hb5
  go_wp2_with fail
  refine (toJobS_any A1 c1 x1 hn1' _ ((hm1.below hb).more hb.size)).mono ?_
  rintro e w6 ⟨g1, rfl, hr1, hg1, hb6⟩
  replace hrp1 := hrp1.below hb6 hrp1.lt
  replace hOp := hOp.below hb6
  replace hIs := hIs.below hb6 hles
  replace hles := Nat.le_trans hles hb6.size
  replace hb := hb.trans (hb6.mono hb.size)
  clear hb6
  go_wp2_with fail
  refine (eqJobS_same _ _ _ _ x1 hn1' _ (hrp1.jbs hrp1.lt) (hr1.jbs hr1.lt)).mono ?_
  rintro e w7 ⟨rfl, hb7⟩
  clear hr1 hg1
  replace hrp1 := hrp1.below hb7 hrp1.lt
  replace hOp := hOp.below hb7
  replace hIs := hIs.below hb7 hles
  replace hles := Nat.le_trans hles hb7.size
  replace hb := hb.trans (hb7.mono hb.size)
  clear hb7
  go_wp2_with fail
  refine (markJobS_any _ _ x1 hn1' _ (by omega) (by omega) _ hrp1).mono ?_
  rintro e w8 ⟨rfl, hgrm⟩
  replace hIs := hIs.grown hgrm (fun j hj => by injection hj with hj; right; omega)
  replace hOp := hOp.kept hgrm (fun j hj => by injection hj with hj; omega)
  replace hb := hb.grown hgrm hb.size (fun j hj => by injection hj with hj; omega)
  replace hles := Nat.le_trans hles hgrm.size
  clear hgrm hrp1
  go_wp2_with fail
  refine (eqIntS_same _ _ _ _ _ _ _ _ xs hbd _ hOp.iv hIs).mono ?_
  rintro e w9 ⟨rfl, hb9⟩
  replace hOp := hOp.below hb9
  replace hIs := hIs.below hb9 hles
  replace hles := Nat.le_trans hles hb9.size
  replace hb := hb.trans (hb9.mono hb.size)
  clear hb9
  go_wp2_with fail
  refine (markIntS_any _ _ _ _ xs rfl hbd _ (by omega) (by omega) _ hOp).mono ?_
  rintro e w10 ⟨ym, rfl, hym, hymk, hOm, hgrm⟩
  replace hIs := hIs.own hOp hgrm hBS
  replace hb := hb.grown hgrm hb.size (fun j hj => by have := hOp.block j hj; omega)
  replace hles := Nat.le_trans hles hgrm.size
  clear hgrm hOp
  have hyl : ym.length ≤ 1048576 := by omega
  replace hymk := Lib.hid hymk
  have Hym := Lib.hid hym
  clear hym
  go_wp2_with fail
  refine (held_x Hym.out hyl hymk.out _ hOm).mono ?_
  rintro e w11 ⟨rfl, rfl⟩
  go_wp2_with fail
  refine (toJobS_any A1 c1 x1 hn1' _ ((hm1.below hb).more hb.size)).mono ?_
  rintro e w11 ⟨gh1, rfl, hrh1, hgh1, hb11⟩
  clear hgh1
  replace hOm := hOm.below hb11
  replace hIs := hIs.below hb11 hles
  replace hles := Nat.le_trans hles hb11.size
  replace hb := hb.trans (hb11.mono hb.size)
  clear hb11
  go_wp2_with fail
  refine (implPlanRate a0 _ _ x1 hs0 hn1' _ (hrh1.jbs hrh1.lt)).mono ?_
  rintro e w12 ⟨Ah, ch, xh, okh, rfl, hRh, hOh, hb12⟩
  obtain ⟨e1, e2⟩ := rateR_one _ _ _ _ _ _ hRs.out hRh
  subst e1 e2
  clear hRh
  clear hrh1
  replace hOm := hOm.below hb12
  replace hIs := hIs.below hb12 hles
  replace hles := Nat.le_trans hles hb12.size
  replace hb := hb.trans (hb12.mono hb.size)
  clear hb12
  go_wp2_with fail
  refine (eqIntS_same _ _ _ _ _ _ _ _ xs hbd _ hOh.iv hIs).mono ?_
  rintro e w13 ⟨rfl, hb13⟩
  replace hOm := hOm.below hb13
  replace hOh := hOh.below hb13
  replace hIs := hIs.below hb13 hles
  replace hles := Nat.le_trans hles hb13.size
  replace hb := hb.trans (hb13.mono hb.size)
  clear hb13
  go_wp2_with fail
  refine (held_x Hym.out hyl hymk.out _ hOm).mono ?_
  rintro e w14 ⟨rfl, rfl⟩
  go_wp2_with fail
  go_ret
  exact ⟨rfl, hb⟩
theorem law_ExactPlanRate (a0 : ByteArray) (a1 : Option Addr) (len1 cap1 : Nat) (z1 : List Jb) (w : World) (w0 : a0.size ≤ maxLen) (w1 : ArgJ w a1 len1 cap1 z1) :
    Calls Try.prog 15 #[.string a0, .slice a1 len1 cap1] w fun e w' => e = .returned (.bool true) ∧ Below w.heap.size w w' := by
  obtain ⟨rfl, hl1, hm1⟩ := w1
  exact walk_ExactPlanRate a0 a1 cap1 z1 w0 hl1 w hm1
end Go.Proofs.Ytglncadfmomamaa
