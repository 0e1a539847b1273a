/- Laws of the kind 'the program answers as the reference does', walked (these lines are printed by lawgen.py). -/
import Derived.Test.YtgdegoomcofmfaaPv4
import Derived.Test.YtgdegoomcofmfaaIm
import Derived.Test.YtgdegoomcofmfaaArgJ
namespace Go.Proofs.Ytgdegoomcofmfaa
set_option linter.unusedVariables false
set_option linter.unusedSimpArgs false
open Go.RowKit
set_option maxRecDepth 100000 in
theorem walk_ExactPlanValid (a0 : ByteArray) (A1 : Option Addr) (c1 : Nat) (x1 : List Jb) (A2 : Option Addr) (c2 : Nat) (x2 : List Int) (hs0 : a0.size ≤ maxLen) (hn1 : x1.length ≤ maxLen) (hn2 : x2.length ≤ maxLen) (w : World) (hm1 : Jbs w w.heap.size A1 x1) (hm2 : Iv w 0 w.heap.size A2 x2) :
    Calls Try.prog 8 #[.string a0, .slice A1 x1.length c1, .slice A2 x2.length c2] w fun e w' => e = .returned (.bool true) ∧ Below w.heap.size w w' := by
  have hq0 := hs0
  unfold maxLen at hq0
  by_cases hf0 : 1048576 < a0.size
  · go_enter Try.func8, Try.ntmps8
    go_wp2_with fail
    go_ret
    exact ⟨rfl, Below.refl _ _⟩
  have hn0' : a0.size ≤ 1048576 := by omega
  have hq2 := hn2
  unfold maxLen at hq2
  by_cases hf2 : 1048576 < x2.length
  · go_enter Try.func8, Try.ntmps8
    go_wp2_with fail
    go_ret
    exact ⟨rfl, Below.refl _ _⟩
  have hn2' : x2.length ≤ 1048576 := by omega
  have hsz1 := szJobS_any A1 x1.length c1 hn1 1048576 (by omega) (by omega)
  by_cases hbig1 : (1048576 : Int) - x1.length < 0
  · rw [if_pos hbig1] at hsz1
    replace hsz1 := Lib.hid hsz1
    go_enter Try.func8, Try.ntmps8
    go_wp2_with fail
    refine (hsz1.out _).mono ?_
    rintro e w1 ⟨rfl, rfl⟩
    go_wp2_with fail
    go_ret
    exact ⟨rfl, Below.refl _ _⟩
  rw [if_neg hbig1] at hsz1
  replace hsz1 := Lib.hid hsz1
  have hn1' : x1.length ≤ 1048576 := by omega
  go_enter Try.func8, Try.ntmps8
  go_wp2_with fail
  refine (hsz1.out _).mono ?_
  rintro e w1 ⟨rfl, rfl⟩
  have hb := Below.refl w.heap.size w
  go_wp2_with fail
  refine (toJobS_any A1 c1 x1 hn1' _ ((hm1.below hb).more hb.size)).mono ?_
  rintro e w1 ⟨gs1, rfl, hrs1, hgs1, hb1⟩
  clear hgs1
  replace hb := hb.trans (hb1.mono hb.size)
  clear hb1
  go_wp2_with fail
  refine (toIntS_any A2 c2 x2 hn2' _ ((hm2.below hb (Nat.le_refl _)).more (Nat.le_refl _) hb.size)).mono ?_
  rintro e w2 ⟨gs2, rfl, hrs2, hgs2, hb2⟩
  clear hgs2
  replace hrs1 := hrs1.below hb2 hrs1.lt
  replace hb := hb.trans (hb2.mono hb.size)
  clear hb2
  go_wp2_with fail
  refine (specPlanB a0 _ _ x1 _ _ x2 hs0 hn1' hn2' _ (hrs1.jbs hrs1.lt) (hrs2.iv (Nat.zero_le _) hrs2.lt)).mono ?_
  rintro e w3 ⟨rs, rfl, hRs, hb3⟩
  replace hRs := Lib.hid hRs
  clear hrs1 hrs2
  replace hb := hb.trans (hb3.mono hb.size)
  clear hb3
  go_wp2_with fail
  refine (toJobS_any A1 c1 x1 hn1' _ ((hm1.below hb).more hb.size)).mono ?_
  rintro e w4 ⟨gp1, rfl, hrp1, hgp1, hb4⟩
  clear hgp1
  replace hb := hb.trans (hb4.mono hb.size)
  clear hb4
  go_wp2_with fail
  refine (toIntS_any A2 c2 x2 hn2' _ ((hm2.below hb (Nat.le_refl _)).more (Nat.le_refl _) hb.size)).mono ?_
  rintro e w5 ⟨gp2, rfl, hrp2, hgp2, hb5⟩
  clear hgp2
  replace hrp1 := hrp1.below hb5 hrp1.lt
  replace hb := hb.trans (hb5.mono hb.size)
  clear hb5
  go_wp2_with fail
  refine (implPlanB a0 _ _ x1 _ _ x2 hs0 hn1' hn2' _ (hrp1.jbs hrp1.lt) (hrp2.iv (Nat.zero_le _) hrp2.lt)).mono ?_
  rintro e w6 ⟨rp, rfl, hRp, hb6⟩
  have e1 := eq2 hRs.out hRp
  subst e1
  clear hRp hRs
  replace hrp1 := hrp1.below hb6 hrp1.lt
  replace hrp2 := hrp2.below hb6 hrp2.lt
  replace hb := hb.trans (hb6.mono hb.size)
  clear hb6
  go_wp2_with fail
  refine (toJobS_any A1 c1 x1 hn1' _ ((hm1.below hb).more hb.size)).mono ?_
  rintro e w7 ⟨g1, rfl, hr1, hg1, hb7⟩
  replace hrp1 := hrp1.below hb7 hrp1.lt
  replace hrp2 := hrp2.below hb7 hrp2.lt
  replace hb := hb.trans (hb7.mono hb.size)
  clear hb7
  go_wp2_with fail
  refine (eqJobS_same _ _ _ _ x1 hn1' _ (hrp1.jbs hrp1.lt) (hr1.jbs hr1.lt)).mono ?_
  rintro e w8 ⟨rfl, hb8⟩
  clear hr1 hg1
  replace hrp1 := hrp1.below hb8 hrp1.lt
  replace hrp2 := hrp2.below hb8 hrp2.lt
  replace hb := hb.trans (hb8.mono hb.size)
  clear hb8
  go_wp2_with fail
  refine (toIntS_any A2 c2 x2 hn2' _ ((hm2.below hb (Nat.le_refl _)).more (Nat.le_refl _) hb.size)).mono ?_
  rintro e w9 ⟨g2, rfl, hr2, hg2, hb9⟩
  replace hrp1 := hrp1.below hb9 hrp1.lt
  replace hrp2 := hrp2.below hb9 hrp2.lt
  replace hb := hb.trans (hb9.mono hb.size)
  clear hb9
  go_wp2_with fail
  refine (eqIntS_same _ _ _ _ _ _ _ _ x2 hn2' _ (hrp2.iv (Nat.zero_le _) hrp2.lt) (hr2.iv (Nat.zero_le _) hr2.lt)).mono ?_
  rintro e w10 ⟨rfl, hb10⟩
  clear hr2 hg2
  replace hrp1 := hrp1.below hb10 hrp1.lt
  replace hrp2 := hrp2.below hb10 hrp2.lt
  replace hb := hb.trans (hb10.mono hb.size)
  clear hb10
  go_wp2_with fail
  go_ret
  exact ⟨rfl, hb⟩
theorem law_ExactPlanValid (a0 : ByteArray) (a1 : Option Addr) (len1 cap1 : Nat) (z1 : List Jb) (a2 : Option Addr) (len2 cap2 : Nat) (z2 : List Int) (w : World) (w0 : a0.size ≤ maxLen) (w1 : ArgJ w a1 len1 cap1 z1) (w2 : ArgI w a2 len2 cap2 z2) :
    Calls Try.prog 8 #[.string a0, .slice a1 len1 cap1, .slice a2 len2 cap2] w fun e w' => e = .returned (.bool true) ∧ Below w.heap.size w w' := by
  obtain ⟨rfl, hl1, hm1⟩ := w1
  obtain ⟨x2, rfl, hl2, _, hm2⟩ := w2.iv
  exact walk_ExactPlanValid a0 a1 cap1 z1 a2 cap2 x2 w0 hl1 hl2 w hm1 hm2
end Go.Proofs.Ytgdegoomcofmfaa
