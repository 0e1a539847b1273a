/- Laws of the kind 'the program answers as the reference does', walked (these lines are printed by lawgen.py). -/
import Derived.Test.YtgdegoomcofmfaaEndsS
import Derived.Test.YtgdegoomcofmfaaEndsI
import Derived.Test.YtgdegoomcofmfaaIm
import Derived.Test.YtgdegoomcofmfaaArgJ
import Derived.Test.YtgdegoomcofmfaaMarkJ
namespace Go.Proofs.Ytgdegoomcofmfaa
set_option linter.unusedVariables false
set_option linter.unusedSimpArgs false
open Go.RowKit
set_option maxRecDepth 100000 in
theorem walk_ExactPlanLoss (a0 : ByteArray) (A1 : Option Addr) (c1 : Nat) (x1 : List Jb) (A2 : Option Addr) (c2 : Nat) (x2 : List Int) (hs0 : a0.size ≤ maxLen) (hn1 : x1.length ≤ maxLen) (hn2 : x2.length ≤ maxLen) (w : World) (hm1 : Jbs w w.heap.size A1 x1) (hm2 : Iv w 0 w.heap.size A2 x2) :
    Calls Try.prog 9 #[.string a0, .slice A1 x1.length c1, .slice A2 x2.length c2] w fun e w' => e = .returned (.bool true) ∧ Below w.heap.size w w' := by
  have hq0 := hs0
  unfold maxLen at hq0
  by_cases hf0 : 1048576 < a0.size
  · go_enter Try.func9, Try.ntmps9
    go_wp2_with fail
    go_ret
    exact ⟨rfl, Below.refl _ _⟩
  have hn0' : a0.size ≤ 1048576 := by omega
  have hq2 := hn2
  unfold maxLen at hq2
  by_cases hf2 : 1048576 < x2.length
  · go_enter Try.func9, Try.ntmps9
    go_wp2_with fail
    go_ret
    exact ⟨rfl, Below.refl _ _⟩
  have hn2' : x2.length ≤ 1048576 := by omega
  have hsz1 := szJobS_any A1 x1.length c1 hn1 1048576 (by omega) (by omega)
  by_cases hbig1 : (1048576 : Int) - x1.length < 0
  · rw [if_pos hbig1] at hsz1
    replace hsz1 := Lib.hid hsz1
    go_enter Try.func9, Try.ntmps9
    go_wp2_with fail
    refine (hsz1.out _).mono ?_
    rintro e w1 ⟨rfl, rfl⟩
    go_wp2_with fail
    go_ret
    exact ⟨rfl, Below.refl _ _⟩
  rw [if_neg hbig1] at hsz1
  replace hsz1 := Lib.hid hsz1
  have hn1' : x1.length ≤ 1048576 := by omega
  go_enter Try.func9, Try.ntmps9
  go_wp2_with fail
  refine (hsz1.out _).mono ?_
  rintro e w1 ⟨rfl, rfl⟩
  have hb := Below.refl w.heap.size w
  go_wp2_with fail
  refine (toJobS_any A1 c1 x1 hn1' _ ((hm1.below hb).more hb.size)).mono ?_
  rintro e w1 ⟨gs1, rfl, hrs1, hgs1, hb1⟩
  clear hgs1
  replace hb := hb.trans (hb1.mono hb.size)
  clear hb1
  go_wp2_with fail
  refine (toIntS_any A2 c2 x2 hn2' _ ((hm2.below hb (Nat.le_refl _)).more (Nat.le_refl _) hb.size)).mono ?_
  rintro e w2 ⟨gs2, rfl, hrs2, hgs2, hb2⟩
  clear hgs2
  replace hrs1 := hrs1.below hb2 hrs1.lt
  replace hb := hb.trans (hb2.mono hb.size)
  clear hb2
  go_wp2_with fail
  refine (specPlanLoss a0 _ _ x1 _ _ x2 hs0 hn1' hn2' _ (hrs1.jbs hrs1.lt) (hrs2.iv (Nat.zero_le _) hrs2.lt)).mono ?_
  rintro e w3 ⟨rs, rfl, hRs, hb3⟩
  replace hRs := Lib.hid hRs
  clear hrs1 hrs2
  replace hb := hb.trans (hb3.mono hb.size)
  clear hb3
  go_wp2_with fail
  refine (toJobS_any A1 c1 x1 hn1' _ ((hm1.below hb).more hb.size)).mono ?_
  rintro e w4 ⟨gp1, rfl, hrp1, hgp1, hb4⟩
  clear hgp1
  replace hb := hb.trans (hb4.mono hb.size)
  clear hb4
  go_wp2_with fail
  refine (toIntS_any A2 c2 x2 hn2' _ ((hm2.below hb (Nat.le_refl _)).more (Nat.le_refl _) hb.size)).mono ?_
  rintro e w5 ⟨gp2, rfl, hrp2, hgp2, hb5⟩
  clear hgp2
  replace hrp1 := hrp1.below hb5 hrp1.lt
  replace hb := hb.trans (hb5.mono hb.size)
  clear hb5
  go_wp2_with fail
  refine (implPlanLoss a0 _ _ x1 _ _ x2 hs0 hn1' hn2' _ (hrp1.jbs hrp1.lt) (hrp2.iv (Nat.zero_le _) hrp2.lt)).mono ?_
  rintro e w6 ⟨rp, rfl, hRp, hb6⟩
  have e1 := eq2 hRs.out hRp
  subst e1
  clear hRp hRs
  replace hrp1 := hrp1.below hb6 hrp1.lt
  replace hrp2 := hrp2.below hb6 hrp2.lt
  replace hb := hb.trans (hb6.mono hb.size)
  clear hb6
  go_wp2_with fail
  refine (toJobS_any A1 c1 x1 hn1' _ ((hm1.below hb).more hb.size)).mono ?_
  rintro e w7 ⟨g1, rfl, hr1, hg1, hb7⟩
  replace hrp1 := hrp1.below hb7 hrp1.lt
  replace hrp2 := hrp2.below hb7 hrp2.lt
  replace hb := hb.trans (hb7.mono hb.size)
  clear hb7
  go_wp2_with fail
  refine (eqJobS_same _ _ _ _ x1 hn1' _ (hrp1.jbs hrp1.lt) (hr1.jbs hr1.lt)).mono ?_
  rintro e w8 ⟨rfl, hb8⟩
  clear hr1 hg1
  replace hrp1 := hrp1.below hb8 hrp1.lt
  replace hrp2 := hrp2.below hb8 hrp2.lt
  replace hb := hb.trans (hb8.mono hb.size)
  clear hb8
  go_wp2_with fail
  refine (toIntS_any A2 c2 x2 hn2' _ ((hm2.below hb (Nat.le_refl _)).more (Nat.le_refl _) hb.size)).mono ?_
  rintro e w9 ⟨g2, rfl, hr2, hg2, hb9⟩
  replace hrp1 := hrp1.below hb9 hrp1.lt
  replace hrp2 := hrp2.below hb9 hrp2.lt
  replace hb := hb.trans (hb9.mono hb.size)
  clear hb9
  go_wp2_with fail
  refine (eqIntS_same _ _ _ _ _ _ _ _ x2 hn2' _ (hrp2.iv (Nat.zero_le _) hrp2.lt) (hr2.iv (Nat.zero_le _) hr2.lt)).mono ?_
  rintro e w10 ⟨rfl, hb10⟩
  clear hr2 hg2
  replace hrp1 := hrp1.below hb10 hrp1.lt
  replace hrp2 := hrp2.below hb10 hrp2.lt
  replace hb := hb.trans (hb10.mono hb.size)
  clear hb10
  go_wp2_with fail
  go_ret
  exact ⟨rfl, hb⟩
theorem law_ExactPlanLoss (a0 : ByteArray) (a1 : Option Addr) (len1 cap1 : Nat) (z1 : List Jb) (a2 : Option Addr) (len2 cap2 : Nat) (z2 : List Int) (w : World) (w0 : a0.size ≤ maxLen) (w1 : ArgJ w a1 len1 cap1 z1) (w2 : ArgI w a2 len2 cap2 z2) :
    Calls Try.prog 9 #[.string a0, .slice a1 len1 cap1, .slice a2 len2 cap2] w fun e w' => e = .returned (.bool true) ∧ Below w.heap.size w w' := by
  obtain ⟨rfl, hl1, hm1⟩ := w1
  obtain ⟨x2, rfl, hl2, _, hm2⟩ := w2.iv
  exact walk_ExactPlanLoss a0 a1 cap1 z1 a2 cap2 x2 w0 hl1 hl2 w hm1 hm2
set_option maxRecDepth 100000 in
theorem walk_ExactPlanEnds (a0 : ByteArray) (A1 : Option Addr) (c1 : Nat) (x1 : List Jb) (A2 : Option Addr) (c2 : Nat) (x2 : List Int) (hs0 : a0.size ≤ maxLen) (hn1 : x1.length ≤ maxLen) (hn2 : x2.length ≤ maxLen) (w : World) (hm1 : Jbs w w.heap.size A1 x1) (hm2 : Iv w 0 w.heap.size A2 x2) :
    Calls Try.prog 10 #[.string a0, .slice A1 x1.length c1, .slice A2 x2.length c2] w fun e w' => e = .returned (.bool true) ∧ Below w.heap.size w w' := by
  have hq0 := hs0
  unfold maxLen at hq0
  by_cases hf0 : 1048576 < a0.size
  · go_enter Try.func10, Try.ntmps10
    go_wp2_with fail
    go_ret
    exact ⟨rfl, Below.refl _ _⟩
  have hn0' : a0.size ≤ 1048576 := by omega
  have hq2 := hn2
  unfold maxLen at hq2
  by_cases hf2 : 1048576 < x2.length
  · go_enter Try.func10, Try.ntmps10
    go_wp2_with fail
    go_ret
    exact ⟨rfl, Below.refl _ _⟩
  have hn2' : x2.length ≤ 1048576 := by omega
  have hsz1 := szJobS_any A1 x1.length c1 hn1 1048576 (by omega) (by omega)
  by_cases hbig1 : (1048576 : Int) - x1.length < 0
  · rw [if_pos hbig1] at hsz1
    replace hsz1 := Lib.hid hsz1
    go_enter Try.func10, Try.ntmps10
    go_wp2_with fail
    refine (hsz1.out _).mono ?_
    rintro e w1 ⟨rfl, rfl⟩
    go_wp2_with fail
    go_ret
    exact ⟨rfl, Below.refl _ _⟩
  rw [if_neg hbig1] at hsz1
  replace hsz1 := Lib.hid hsz1
  have hn1' : x1.length ≤ 1048576 := by omega
  go_enter Try.func10, Try.ntmps10
  go_wp2_with fail
  refine (hsz1.out _).mono ?_
  rintro e w1 ⟨rfl, rfl⟩
  have hb := Below.refl w.heap.size w
  go_wp2_with fail
  refine (toJobS_any A1 c1 x1 hn1' _ ((hm1.below hb).more hb.size)).mono ?_
  rintro e w1 ⟨gs1, rfl, hrs1, hgs1, hb1⟩
  clear hgs1
  replace hb := hb.trans (hb1.mono hb.size)
  clear hb1
  go_wp2_with fail
  refine (toIntS_any A2 c2 x2 hn2' _ ((hm2.below hb (Nat.le_refl _)).more (Nat.le_refl _) hb.size)).mono ?_
  rintro e w2 ⟨gs2, rfl, hrs2, hgs2, hb2⟩
  clear hgs2
  replace hrs1 := hrs1.below hb2 hrs1.lt
  replace hb := hb.trans (hb2.mono hb.size)
  clear hb2
  go_wp2_with fail
  refine (specPlanEndsP a0 _ _ x1 _ _ x2 hs0 hn1' hn2' _ (hrs1.jbs hrs1.lt) (hrs2.iv (Nat.zero_le _) hrs2.lt)).mono ?_
  rintro e w3 ⟨As, cs, xs, oks, rfl, hRs, hIs, hb3⟩
  obtain ⟨hiS, hhiS⟩ : ∃ z, z = w3.heap.size := ⟨_, rfl⟩
  rw [← hhiS] at hIs
  have hles := Nat.le_of_eq hhiS
  clear hhiS
  have hbd := endsR_len hn1' hRs
  replace hRs := Lib.hid hRs
  clear hrs1 hrs2
  replace hb := hb.trans (hb3.mono hb.size)
  clear hb3
  go_wp2_with fail
  refine (toJobS_any A1 c1 x1 hn1' _ ((hm1.below hb).more hb.size)).mono ?_
  rintro e w4 ⟨gp1, rfl, hrp1, hgp1, hb4⟩
  have hlo1 := Nat.le_trans hles hgp1
  have hlw1 := Nat.le_trans hb.size hgp1
  clear hgp1
  replace hIs := hIs.below hb4 hles
  replace hles := Nat.le_trans hles hb4.size
  replace hb := hb.trans (hb4.mono hb.size)
  clear hb4
  go_wp2_with fail
  refine (toIntS_any A2 c2 x2 hn2' _ ((hm2.below hb (Nat.le_refl _)).more (Nat.le_refl _) hb.size)).mono ?_
  rintro e w5 ⟨gp2, rfl, hrp2, hgp2, hb5⟩
  have hlo2 := Nat.le_trans hles hgp2
  have hlw2 := Nat.le_trans hb.size hgp2
  have hne1_2 : gp1 ≠ gp2 := by have := hrp1.lt; omega
  clear hgp2
  replace hrp1 := hrp1.below hb5 hrp1.lt
  replace hIs := hIs.below hb5 hles
  replace hles := Nat.le_trans hles hb5.size
  replace hb := hb.trans (hb5.mono hb.size)
  clear hb5
  have hltp1 := hrp1.lt
  have hltp2 := hrp2.lt
  have hBS := hles
  go_wp2_with fail
  refine (implPlanEnds a0 _ _ x1 _ _ x2 hs0 hn1' hn2' _ (hrp1.jbs hrp1.lt) (hrp2.iv (Nat.zero_le _) hrp2.lt)).mono ?_
  rintro e w6 ⟨Ap, cp, xp, okp, rfl, hRp, hOp, hb6⟩
  obtain ⟨e1, e2⟩ := endsR_one _ _ _ _ _ _ _ hRs.out hRp
  subst e1 e2
  clear hRp
  replace hrp1 := hrp1.below hb6 hrp1.lt
  replace hrp2 := hrp2.below hb6 hrp2.lt
  replace hIs := hIs.below hb6 hles
  replace hles := Nat.le_trans hles hb6.size
  replace hb := hb.trans (hb6.mono hb.size)
  clear hb6
  go_wp2_with fail
  refine (eqIntS_same _ _ _ _ _ _ _ _ xs hbd _ hOp.iv hIs).mono ?_
  rintro e w7 ⟨rfl, hb7⟩
  replace hrp1 := hrp1.below hb7 hrp1.lt
  replace hrp2 := hrp2.below hb7 hrp2.lt
  replace hOp := hOp.below hb7
  replace hIs := hIs.below hb7 hles
  replace hles := Nat.le_trans hles hb7.size
  replace hb := hb.trans (hb7.mono hb.size)
  clear hb7
  go_wp2_with fail
  refine (toJobS_any A1 c1 x1 hn1' _ ((hm1.below hb).more hb.size)).mono ?_
  rintro e w8 ⟨g1, rfl, hr1, hg1, hb8⟩
  replace hrp1 := hrp1.below hb8 hrp1.lt
  replace hrp2 := hrp2.below hb8 hrp2.lt
  replace hOp := hOp.below hb8
  replace hIs := hIs.below hb8 hles
  replace hles := Nat.le_trans hles hb8.size
  replace hb := hb.trans (hb8.mono hb.size)
  clear hb8
  go_wp2_with fail
  refine (eqJobS_same _ _ _ _ x1 hn1' _ (hrp1.jbs hrp1.lt) (hr1.jbs hr1.lt)).mono ?_
  rintro e w9 ⟨rfl, hb9⟩
  clear hr1 hg1
  replace hrp1 := hrp1.below hb9 hrp1.lt
  replace hrp2 := hrp2.below hb9 hrp2.lt
  replace hOp := hOp.below hb9
  replace hIs := hIs.below hb9 hles
  replace hles := Nat.le_trans hles hb9.size
  replace hb := hb.trans (hb9.mono hb.size)
  clear hb9
  go_wp2_with fail
  refine (toIntS_any A2 c2 x2 hn2' _ ((hm2.below hb (Nat.le_refl _)).more (Nat.le_refl _) hb.size)).mono ?_
  rintro e w10 ⟨g2, rfl, hr2, hg2, hb10⟩
  replace hrp1 := hrp1.below hb10 hrp1.lt
  replace hrp2 := hrp2.below hb10 hrp2.lt
  replace hOp := hOp.below hb10
  replace hIs := hIs.below hb10 hles
  replace hles := Nat.le_trans hles hb10.size
  replace hb := hb.trans (hb10.mono hb.size)
  clear hb10
  go_wp2_with fail
  refine (eqIntS_same _ _ _ _ _ _ _ _ x2 hn2' _ (hrp2.iv (Nat.zero_le _) hrp2.lt) (hr2.iv (Nat.zero_le _) hr2.lt)).mono ?_
  rintro e w11 ⟨rfl, hb11⟩
  clear hr2 hg2
  replace hrp1 := hrp1.below hb11 hrp1.lt
  replace hrp2 := hrp2.below hb11 hrp2.lt
  replace hOp := hOp.below hb11
  replace hIs := hIs.below hb11 hles
  replace hles := Nat.le_trans hles hb11.size
  replace hb := hb.trans (hb11.mono hb.size)
  clear hb11
  go_wp2_with fail
  refine (markJobS_any _ _ x1 hn1' _ (by omega) (by omega) _ hrp1).mono ?_
  rintro e w12 ⟨rfl, hgrm⟩
  replace hIs := hIs.grown hgrm (fun j hj => by injection hj with hj; right; omega)
  replace hOp := hOp.kept hgrm (fun j hj => by injection hj with hj; omega)
  replace hrp2 := hrp2.grown hgrm (fun h => by injection h with h; exact hne1_2 h.symm)
  replace hb := hb.grown hgrm hb.size (fun j hj => by injection hj with hj; omega)
  replace hles := Nat.le_trans hles hgrm.size
  clear hgrm hrp1
  go_wp2_with fail
  refine (markIntS_any _ _ _ gp2 x2 rfl hn2' _ (by omega) (by omega) _ (hrp2.own (Nat.le_refl _) (by unfold maxLen; omega))).mono ?_
  rintro e w13 ⟨ym, rfl, _, _, _, hgrm⟩
  replace hgrm : World.grownBy _ _ (some gp2) := hgrm
  replace hIs := hIs.grown hgrm (fun j hj => by injection hj with hj; right; omega)
  replace hOp := hOp.kept hgrm (fun j hj => by injection hj with hj; omega)
  replace hb := hb.grown hgrm hb.size (fun j hj => by injection hj with hj; omega)
  replace hles := Nat.le_trans hles hgrm.size
  clear hgrm hrp2
  go_wp2_with fail
  refine (eqIntS_same _ _ _ _ _ _ _ _ xs hbd _ hOp.iv hIs).mono ?_
  rintro e w14 ⟨rfl, hb14⟩
  replace hOp := hOp.below hb14
  replace hIs := hIs.below hb14 hles
  replace hles := Nat.le_trans hles hb14.size
  replace hb := hb.trans (hb14.mono hb.size)
  clear hb14
  go_wp2_with fail
  refine (markIntS_any _ _ _ _ xs rfl hbd _ (by omega) (by omega) _ hOp).mono ?_
  rintro e w15 ⟨ym, rfl, hym, hymk, hOm, hgrm⟩
  replace hIs := hIs.own hOp hgrm hBS
  replace hb := hb.grown hgrm hb.size (fun j hj => by have := hOp.block j hj; omega)
  replace hles := Nat.le_trans hles hgrm.size
  clear hgrm hOp
  have hyl : ym.length ≤ 1048576 := by omega
  replace hymk := Lib.hid hymk
  have Hym := Lib.hid hym
  clear hym
  go_wp2_with fail
  refine (held_x Hym.out hyl hymk.out _ hOm).mono ?_
  rintro e w16 ⟨rfl, rfl⟩
  go_wp2_with fail
  refine (toJobS_any A1 c1 x1 hn1' _ ((hm1.below hb).more hb.size)).mono ?_
  rintro e w16 ⟨gh1, rfl, hrh1, hgh1, hb16⟩
  clear hgh1
  replace hOm := hOm.below hb16
  replace hIs := hIs.below hb16 hles
  replace hles := Nat.le_trans hles hb16.size
  replace hb := hb.trans (hb16.mono hb.size)
  clear hb16
  go_wp2_with fail
  refine (toIntS_any A2 c2 x2 hn2' _ ((hm2.below hb (Nat.le_refl _)).more (Nat.le_refl _) hb.size)).mono ?_
  rintro e w17 ⟨gh2, rfl, hrh2, hgh2, hb17⟩
  clear hgh2
  replace hrh1 := hrh1.below hb17 hrh1.lt
  replace hOm := hOm.below hb17
  replace hIs := hIs.below hb17 hles
  replace hles := Nat.le_trans hles hb17.size
  replace hb := hb.trans (hb17.mono hb.size)
  clear hb17
  go_wp2_with fail
  refine (implPlanEnds a0 _ _ x1 _ _ x2 hs0 hn1' hn2' _ (hrh1.jbs hrh1.lt) (hrh2.iv (Nat.zero_le _) hrh2.lt)).mono ?_
  rintro e w18 ⟨Ah, ch, xh, okh, rfl, hRh, hOh, hb18⟩
  obtain ⟨e1, e2⟩ := endsR_one _ _ _ _ _ _ _ hRs.out hRh
  subst e1 e2
  clear hRh
  clear hrh1 hrh2
  replace hOm := hOm.below hb18
  replace hIs := hIs.below hb18 hles
  replace hles := Nat.le_trans hles hb18.size
  replace hb := hb.trans (hb18.mono hb.size)
  clear hb18
  go_wp2_with fail
  refine (eqIntS_same _ _ _ _ _ _ _ _ xs hbd _ hOh.iv hIs).mono ?_
  rintro e w19 ⟨rfl, hb19⟩
  replace hOm := hOm.below hb19
  replace hOh := hOh.below hb19
  replace hIs := hIs.below hb19 hles
  replace hles := Nat.le_trans hles hb19.size
  replace hb := hb.trans (hb19.mono hb.size)
  clear hb19
  go_wp2_with fail
  refine (held_x Hym.out hyl hymk.out _ hOm).mono ?_
  rintro e w20 ⟨rfl, rfl⟩
  go_wp2_with fail
  go_ret
  exact ⟨rfl, hb⟩
theorem law_ExactPlanEnds (a0 : ByteArray) (a1 : Option Addr) (len1 cap1 : Nat) (z1 : List Jb) (a2 : Option Addr) (len2 cap2 : Nat) (z2 : List Int) (w : World) (w0 : a0.size ≤ maxLen) (w1 : ArgJ w a1 len1 cap1 z1) (w2 : ArgI w a2 len2 cap2 z2) :
    Calls Try.prog 10 #[.string a0, .slice a1 len1 cap1, .slice a2 len2 cap2] w fun e w' => e = .returned (.bool true) ∧ Below w.heap.size w w' := by
  obtain ⟨rfl, hl1, hm1⟩ := w1
  obtain ⟨x2, rfl, hl2, _, hm2⟩ := w2.iv
  exact walk_ExactPlanEnds a0 a1 cap1 z1 a2 cap2 x2 w0 hl1 hl2 w hm1 hm2
end Go.Proofs.Ytgdegoomcofmfaa
