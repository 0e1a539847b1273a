/- Laws of the kind 'the program answers as the reference does', walked (these lines are printed by lawgen.py). -/
import Derived.Test.YtfppgdgbljfpkaaAdd
import Derived.Test.YtfppgdgbljfpkaaMark
import Derived.Test.YtfppgdgbljfpkaaArg
namespace Go.Proofs.Ytfppgdgbljfpkaa
set_option linter.unusedVariables false
set_option linter.unusedSimpArgs false
open Go.RowKit
set_option maxRecDepth 100000 in
theorem walk_ExactLoadAdd (a0 : Int) (A1 : Option Addr) (c1 : Nat) (x1 : List Ln) (a2 : Int) (a3 : Int) (A4 : Option Addr) (c4 : Nat) (x4 : List Int) (A5 : Option Addr) (c5 : Nat) (x5 : List Int) (hn1 : x1.length ≤ maxLen) (hn4 : x4.length ≤ maxLen) (hn5 : x5.length ≤ maxLen) (w : World) (hm1 : Lns w w.heap.size A1 x1) (hm4 : Iv w 0 w.heap.size A4 x4) (hm5 : Iv w 0 w.heap.size A5 x5) :
    Calls Try.prog 9 #[.int .i64 a0, .slice A1 x1.length c1, .int .i64 a2, .int .i64 a3, .slice A4 x4.length c4, .slice A5 x5.length c5] w fun e w' => e = .returned (.bool true) ∧ Below w.heap.size w w' := by
  have hq4 := hn4
  unfold maxLen at hq4
  by_cases hf4 : 1048576 < x4.length
  · go_enter Try.func9, Try.ntmps9
    go_wp2_with fail
    go_ret
    exact ⟨rfl, Below.refl _ _⟩
  have hn4' : x4.length ≤ 1048576 := by omega
  have hq5 := hn5
  unfold maxLen at hq5
  by_cases hf5 : 1048576 < x5.length
  · go_enter Try.func9, Try.ntmps9
    go_wp2_with fail
    go_ret
    exact ⟨rfl, Below.refl _ _⟩
  have hn5' : x5.length ≤ 1048576 := by omega
  have hsz1 := szLineS_any A1 x1.length c1 hn1 1048576 (by omega) (by omega)
  by_cases hbig1 : (1048576 : Int) - x1.length < 0
  · rw [if_pos hbig1] at hsz1
    replace hsz1 := Lib.hid hsz1
    go_enter Try.func9, Try.ntmps9
    go_wp2_with fail
    refine (hsz1.out _).mono ?_
    rintro e w1 ⟨rfl, rfl⟩
    go_wp2_with fail
    go_ret
    exact ⟨rfl, Below.refl _ _⟩
  rw [if_neg hbig1] at hsz1
  replace hsz1 := Lib.hid hsz1
  have hn1' : x1.length ≤ 1048576 := by omega
  go_enter Try.func9, Try.ntmps9
  go_wp2_with fail
  refine (hsz1.out _).mono ?_
  rintro e w1 ⟨rfl, rfl⟩
  have hb := Below.refl w.heap.size w
  go_wp2_with fail
  refine (toLineS_any A1 c1 x1 hn1' _ ((hm1.below hb).more hb.size)).mono ?_
  rintro e w1 ⟨gs1, rfl, hrs1, hgs1, hb1⟩
  clear hgs1
  replace hb := hb.trans (hb1.mono hb.size)
  clear hb1
  go_wp2_with fail
  refine (toIntS_any A4 c4 x4 hn4' _ ((hm4.below hb (Nat.le_refl _)).more (Nat.le_refl _) hb.size)).mono ?_
  rintro e w2 ⟨gs4, rfl, hrs4, hgs4, hb2⟩
  clear hgs4
  replace hrs1 := hrs1.below hb2 hrs1.lt
  replace hb := hb.trans (hb2.mono hb.size)
  clear hb2
  go_wp2_with fail
  refine (toIntS_any A5 c5 x5 hn5' _ ((hm5.below hb (Nat.le_refl _)).more (Nat.le_refl _) hb.size)).mono ?_
  rintro e w3 ⟨gs5, rfl, hrs5, hgs5, hb3⟩
  clear hgs5
  replace hrs1 := hrs1.below hb3 hrs1.lt
  replace hrs4 := hrs4.below hb3 hrs4.lt
  replace hb := hb.trans (hb3.mono hb.size)
  clear hb3
  go_wp2_with fail
  refine (sLoadAdd' a0 _ _ x1 a2 a3 _ _ x4 _ _ x5 hn1' hn4' hn5' _ (hrs1.lns hrs1.lt) (hrs4.iv (Nat.zero_le _) hrs4.lt) (hrs5.iv (Nat.zero_le _) hrs5.lt)).mono ?_
  rintro e w4 ⟨As, cs, xs, oks, rfl, hRs, hIs, hb4⟩
  obtain ⟨hiS, hhiS⟩ : ∃ z, z = w4.heap.size := ⟨_, rfl⟩
  rw [← hhiS] at hIs
  have hles := Nat.le_of_eq hhiS
  clear hhiS
  have hbd := AddR_len hRs
  replace hRs := Lib.hid hRs
  clear hrs1 hrs4 hrs5
  replace hb := hb.trans (hb4.mono hb.size)
  clear hb4
  go_wp2_with fail
  refine (toLineS_any A1 c1 x1 hn1' _ ((hm1.below hb).more hb.size)).mono ?_
  rintro e w5 ⟨gp1, rfl, hrp1, hgp1, hb5⟩
  have hlo1 := Nat.le_trans hles hgp1
  have hlw1 := Nat.le_trans hb.size hgp1
  clear hgp1
  replace hIs := hIs.below hb5 hles
  replace hles := Nat.le_trans hles hb5.size
  replace hb := hb.trans (hb5.mono hb.size)
  clear hb5
  go_wp2_with fail
  refine (toIntS_any A4 c4 x4 hn4' _ ((hm4.below hb (Nat.le_refl _)).more (Nat.le_refl _) hb.size)).mono ?_
  rintro e w6 ⟨gp4, rfl, hrp4, hgp4, hb6⟩
  have hlo4 := Nat.le_trans hles hgp4
  have hlw4 := Nat.le_trans hb.size hgp4
  have hne1_4 : gp1 ≠ gp4 := by have := hrp1.lt; omega
  clear hgp4
  replace hrp1 := hrp1.below hb6 hrp1.lt
  replace hIs := hIs.below hb6 hles
  replace hles := Nat.le_trans hles hb6.size
  replace hb := hb.trans (hb6.mono hb.size)
  clear hb6
  go_wp2_with fail
  refine (toIntS_any A5 c5 x5 hn5' _ ((hm5.below hb (Nat.le_refl _)).more (Nat.le_refl _) hb.size)).mono ?_
  rintro e w7 ⟨gp5, rfl, hrp5, hgp5, hb7⟩
  have hlo5 := Nat.le_trans hles hgp5
  have hlw5 := Nat.le_trans hb.size hgp5
  have hne1_5 : gp1 ≠ gp5 := by have := hrp1.lt; omega
  have hne4_5 : gp4 ≠ gp5 := by have := hrp4.lt; omega
  clear hgp5
  replace hrp1 := hrp1.below hb7 hrp1.lt
  replace hrp4 := hrp4.below hb7 hrp4.lt
  replace hIs := hIs.below hb7 hles
  replace hles := Nat.le_trans hles hb7.size
  replace hb := hb.trans (hb7.mono hb.size)
  clear hb7
  have hltp1 := hrp1.lt
  have hltp4 := hrp4.lt
  have hltp5 := hrp5.lt
  have hBS := hles
  go_wp2_with fail
  refine (iLoadAdd a0 _ _ x1 a2 a3 _ _ x4 _ _ x5 hn1' hn4' hn5' _ (hrp1.lns hrp1.lt) (hrp4.iv (Nat.zero_le _) hrp4.lt) (hrp5.iv (Nat.zero_le _) hrp5.lt)).mono ?_
  rintro e w8 ⟨Ap, cp, xp, okp, rfl, hRp, hOp, hb8⟩
  obtain ⟨e1, e2⟩ := AddR_fn _ _ _ _ _ _ _ _ _ _ hRs.out hRp
  subst e1 e2
  clear hRp
  replace hrp1 := hrp1.below hb8 hrp1.lt
  replace hrp4 := hrp4.below hb8 hrp4.lt
  replace hrp5 := hrp5.below hb8 hrp5.lt
  replace hIs := hIs.below hb8 hles
  replace hles := Nat.le_trans hles hb8.size
  replace hb := hb.trans (hb8.mono hb.size)
  clear hb8
  go_wp2_with fail
  refine (eqIntS_same _ _ _ _ _ _ _ _ xs hbd _ hOp.iv hIs).mono ?_
  rintro e w9 ⟨rfl, hb9⟩
  replace hrp1 := hrp1.below hb9 hrp1.lt
  replace hrp4 := hrp4.below hb9 hrp4.lt
  replace hrp5 := hrp5.below hb9 hrp5.lt
  replace hOp := hOp.below hb9
  replace hIs := hIs.below hb9 hles
  replace hles := Nat.le_trans hles hb9.size
  replace hb := hb.trans (hb9.mono hb.size)
  clear hb9
  go_wp2_with fail
  refine (toLineS_any A1 c1 x1 hn1' _ ((hm1.below hb).more hb.size)).mono ?_
  rintro e w10 ⟨g1, rfl, hr1, hg1, hb10⟩
  replace hrp1 := hrp1.below hb10 hrp1.lt
  replace hrp4 := hrp4.below hb10 hrp4.lt
  replace hrp5 := hrp5.below hb10 hrp5.lt
  replace hOp := hOp.below hb10
  replace hIs := hIs.below hb10 hles
  replace hles := Nat.le_trans hles hb10.size
  replace hb := hb.trans (hb10.mono hb.size)
  clear hb10
  go_wp2_with fail
  refine (eqLineS_same _ _ _ _ x1 hn1' _ (hrp1.lns hrp1.lt) (hr1.lns hr1.lt)).mono ?_
  rintro e w11 ⟨rfl, hb11⟩
  clear hr1 hg1
  replace hrp1 := hrp1.below hb11 hrp1.lt
  replace hrp4 := hrp4.below hb11 hrp4.lt
  replace hrp5 := hrp5.below hb11 hrp5.lt
  replace hOp := hOp.below hb11
  replace hIs := hIs.below hb11 hles
  replace hles := Nat.le_trans hles hb11.size
  replace hb := hb.trans (hb11.mono hb.size)
  clear hb11
  go_wp2_with fail
  refine (toIntS_any A4 c4 x4 hn4' _ ((hm4.below hb (Nat.le_refl _)).more (Nat.le_refl _) hb.size)).mono ?_
  rintro e w12 ⟨g4, rfl, hr4, hg4, hb12⟩
  replace hrp1 := hrp1.below hb12 hrp1.lt
  replace hrp4 := hrp4.below hb12 hrp4.lt
  replace hrp5 := hrp5.below hb12 hrp5.lt
  replace hOp := hOp.below hb12
  replace hIs := hIs.below hb12 hles
  replace hles := Nat.le_trans hles hb12.size
  replace hb := hb.trans (hb12.mono hb.size)
  clear hb12
  go_wp2_with fail
  refine (eqIntS_same _ _ _ _ _ _ _ _ x4 hn4' _ (hrp4.iv (Nat.zero_le _) hrp4.lt) (hr4.iv (Nat.zero_le _) hr4.lt)).mono ?_
  rintro e w13 ⟨rfl, hb13⟩
  clear hr4 hg4
  replace hrp1 := hrp1.below hb13 hrp1.lt
  replace hrp4 := hrp4.below hb13 hrp4.lt
  replace hrp5 := hrp5.below hb13 hrp5.lt
  replace hOp := hOp.below hb13
  replace hIs := hIs.below hb13 hles
  replace hles := Nat.le_trans hles hb13.size
  replace hb := hb.trans (hb13.mono hb.size)
  clear hb13
  go_wp2_with fail
  refine (toIntS_any A5 c5 x5 hn5' _ ((hm5.below hb (Nat.le_refl _)).more (Nat.le_refl _) hb.size)).mono ?_
  rintro e w14 ⟨g5, rfl, hr5, hg5, hb14⟩
  replace hrp1 := hrp1.below hb14 hrp1.lt
  replace hrp4 := hrp4.below hb14 hrp4.lt
  replace hrp5 := hrp5.below hb14 hrp5.lt
  replace hOp := hOp.below hb14
  replace hIs := hIs.below hb14 hles
  replace hles := Nat.le_trans hles hb14.size
  replace hb := hb.trans (hb14.mono hb.size)
  clear hb14
  go_wp2_with fail
  refine (eqIntS_same _ _ _ _ _ _ _ _ x5 hn5' _ (hrp5.iv (Nat.zero_le _) hrp5.lt) (hr5.iv (Nat.zero_le _) hr5.lt)).mono ?_
  rintro e w15 ⟨rfl, hb15⟩
  clear hr5 hg5
  replace hrp1 := hrp1.below hb15 hrp1.lt
  replace hrp4 := hrp4.below hb15 hrp4.lt
  replace hrp5 := hrp5.below hb15 hrp5.lt
  replace hOp := hOp.below hb15
  replace hIs := hIs.below hb15 hles
  replace hles := Nat.le_trans hles hb15.size
  replace hb := hb.trans (hb15.mono hb.size)
  clear hb15
  go_wp2_with fail
  refine (markLineS_any _ _ x1 hn1' _ (by omega) (by omega) _ hrp1).mono ?_
  rintro e w16 ⟨rfl, hgrm⟩
  replace hIs := hIs.grown hgrm (fun j hj => by injection hj with hj; right; omega)
  replace hOp := hOp.kept hgrm (fun j hj => by injection hj with hj; omega)
  replace hrp4 := hrp4.grown hgrm (fun h => by injection h with h; exact hne1_4 h.symm)
  replace hrp5 := hrp5.grown hgrm (fun h => by injection h with h; exact hne1_5 h.symm)
  replace hb := hb.grown hgrm hb.size (fun j hj => by injection hj with hj; omega)
  replace hles := Nat.le_trans hles hgrm.size
  clear hgrm hrp1
  go_wp2_with fail
  refine (markIntS_any _ _ _ gp4 x4 rfl hn4' _ (by omega) (by omega) _ (hrp4.own (Nat.le_refl _) (by unfold maxLen; omega))).mono ?_
  rintro e w17 ⟨ym, rfl, _, _, _, hgrm⟩
  replace hgrm : World.grownBy _ _ (some gp4) := hgrm
  replace hIs := hIs.grown hgrm (fun j hj => by injection hj with hj; right; omega)
  replace hOp := hOp.kept hgrm (fun j hj => by injection hj with hj; omega)
  replace hrp5 := hrp5.grown hgrm (fun h => by injection h with h; exact hne4_5 h.symm)
  replace hb := hb.grown hgrm hb.size (fun j hj => by injection hj with hj; omega)
  replace hles := Nat.le_trans hles hgrm.size
  clear hgrm hrp4
  go_wp2_with fail
  refine (markIntS_any _ _ _ gp5 x5 rfl hn5' _ (by omega) (by omega) _ (hrp5.own (Nat.le_refl _) (by unfold maxLen; omega))).mono ?_
  rintro e w18 ⟨ym, rfl, _, _, _, hgrm⟩
  replace hgrm : World.grownBy _ _ (some gp5) := hgrm
  replace hIs := hIs.grown hgrm (fun j hj => by injection hj with hj; right; omega)
  replace hOp := hOp.kept hgrm (fun j hj => by injection hj with hj; omega)
  replace hb := hb.grown hgrm hb.size (fun j hj => by injection hj with hj; omega)
  replace hles := Nat.le_trans hles hgrm.size
  clear hgrm hrp5
  go_wp2_with fail
  refine (eqIntS_same _ _ _ _ _ _ _ _ xs hbd _ hOp.iv hIs).mono ?_
  rintro e w19 ⟨rfl, hb19⟩
  replace hOp := hOp.below hb19
  replace hIs := hIs.below hb19 hles
  replace hles := Nat.le_trans hles hb19.size
  replace hb := hb.trans (hb19.mono hb.size)
  clear hb19
  go_wp2_with fail
  refine (markIntS_any _ _ _ _ xs rfl hbd _ (by omega) (by omega) _ hOp).mono ?_
  rintro e w20 ⟨ym, rfl, hym, hymk, hOm, hgrm⟩
  replace hIs := hIs.own hOp hgrm hBS
  replace hb := hb.grown hgrm hb.size (fun j hj => by have := hOp.block j hj; omega)
  replace hles := Nat.le_trans hles hgrm.size
  clear hgrm hOp
  have hyl : ym.length ≤ 1048576 := by omega
  replace hymk := Lib.hid hymk
  have Hym := Lib.hid hym
  clear hym
  go_wp2_with fail
  refine (held_x Hym.out hyl hymk.out _ hOm).mono ?_
  rintro e w21 ⟨rfl, rfl⟩
  go_wp2_with fail
  refine (toLineS_any A1 c1 x1 hn1' _ ((hm1.below hb).more hb.size)).mono ?_
  rintro e w21 ⟨gh1, rfl, hrh1, hgh1, hb21⟩
  clear hgh1
  replace hOm := hOm.below hb21
  replace hIs := hIs.below hb21 hles
  replace hles := Nat.le_trans hles hb21.size
  replace hb := hb.trans (hb21.mono hb.size)
  clear hb21
  go_wp2_with fail
  refine (toIntS_any A4 c4 x4 hn4' _ ((hm4.below hb (Nat.le_refl _)).more (Nat.le_refl _) hb.size)).mono ?_
  rintro e w22 ⟨gh4, rfl, hrh4, hgh4, hb22⟩
  clear hgh4
  replace hrh1 := hrh1.below hb22 hrh1.lt
  replace hOm := hOm.below hb22
  replace hIs := hIs.below hb22 hles
  replace hles := Nat.le_trans hles hb22.size
  replace hb := hb.trans (hb22.mono hb.size)
  clear hb22
  go_wp2_with fail
  refine (toIntS_any A5 c5 x5 hn5' _ ((hm5.below hb (Nat.le_refl _)).more (Nat.le_refl _) hb.size)).mono ?_
  rintro e w23 ⟨gh5, rfl, hrh5, hgh5, hb23⟩
  clear hgh5
  replace hrh1 := hrh1.below hb23 hrh1.lt
  replace hrh4 := hrh4.below hb23 hrh4.lt
  replace hOm := hOm.below hb23
  replace hIs := hIs.below hb23 hles
  replace hles := Nat.le_trans hles hb23.size
  replace hb := hb.trans (hb23.mono hb.size)
  clear hb23
  go_wp2_with fail
  refine (iLoadAdd a0 _ _ x1 a2 a3 _ _ x4 _ _ x5 hn1' hn4' hn5' _ (hrh1.lns hrh1.lt) (hrh4.iv (Nat.zero_le _) hrh4.lt) (hrh5.iv (Nat.zero_le _) hrh5.lt)).mono ?_
  rintro e w24 ⟨Ah, ch, xh, okh, rfl, hRh, hOh, hb24⟩
  obtain ⟨e1, e2⟩ := AddR_fn _ _ _ _ _ _ _ _ _ _ hRs.out hRh
  subst e1 e2
  clear hRh
  clear hrh1 hrh4 hrh5
  replace hOm := hOm.below hb24
  replace hIs := hIs.below hb24 hles
  replace hles := Nat.le_trans hles hb24.size
  replace hb := hb.trans (hb24.mono hb.size)
  clear hb24
  go_wp2_with fail
  refine (eqIntS_same _ _ _ _ _ _ _ _ xs hbd _ hOh.iv hIs).mono ?_
  rintro e w25 ⟨rfl, hb25⟩
  replace hOm := hOm.below hb25
  replace hOh := hOh.below hb25
  replace hIs := hIs.below hb25 hles
  replace hles := Nat.le_trans hles hb25.size
  replace hb := hb.trans (hb25.mono hb.size)
  clear hb25
  go_wp2_with fail
  refine (held_x Hym.out hyl hymk.out _ hOm).mono ?_
  rintro e w26 ⟨rfl, rfl⟩
  go_wp2_with fail
  go_ret
  exact ⟨rfl, hb⟩
theorem law_ExactLoadAdd (a0 : Int) (a1 : Option Addr) (len1 cap1 : Nat) (z1 : List Ln) (a2 : Int) (a3 : Int) (a4 : Option Addr) (len4 cap4 : Nat) (z4 : List Int) (a5 : Option Addr) (len5 cap5 : Nat) (z5 : List Int) (w : World) (_w0 : (Lit.int .i64 a0).wf = true) (w1 : ArgL w a1 len1 cap1 z1) (_w2 : (Lit.int .i64 a2).wf = true) (_w3 : (Lit.int .i64 a3).wf = true) (w4 : ArgI w a4 len4 cap4 z4) (w5 : ArgI w a5 len5 cap5 z5) :
    Calls Try.prog 9 #[.int .i64 a0, .slice a1 len1 cap1, .int .i64 a2, .int .i64 a3, .slice a4 len4 cap4, .slice a5 len5 cap5] w fun e w' => e = .returned (.bool true) ∧ Below w.heap.size w w' := by
  obtain ⟨rfl, hl1, hm1⟩ := w1
  obtain ⟨x4, rfl, hl4, _, hm4⟩ := w4.iv
  obtain ⟨x5, rfl, hl5, _, hm5⟩ := w5.iv
  exact walk_ExactLoadAdd a0 a1 cap1 z1 a2 a3 a4 cap4 x4 a5 cap5 x5 hl1 hl4 hl5 w hm1 hm4 hm5
end Go.Proofs.Ytfppgdgbljfpkaa
