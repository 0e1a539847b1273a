/- The law FnExactCutOf, walked. -/
import Derived.Test.YtfppgdgbljfpkaaCutW3
import Derived.Test.YtfppgdgbljfpkaaMark
import Derived.Test.YtfppgdgbljfpkaaArg
namespace Go.Proofs.Ytfppgdgbljfpkaa
set_option linter.unusedVariables false
set_option linter.unusedSimpArgs false
open Go.RowKit
theorem CutPost_uniq {n : Int} {L : List Ln} {p q : Int} {f : List Int} {t u : Int} (h : (CutP n L p q f ∧ t = cutVal (sideF f) L) ∨ (¬ CutP n L p q f ∧ t = -1)) (k : (CutP n L p q f ∧ u = cutVal (sideF f) L) ∨ (¬ CutP n L p q f ∧ u = -1)) : t = u := by
  rcases h with ⟨h1, h2⟩ | ⟨h1, h2⟩ <;> rcases k with ⟨k1, k2⟩ | ⟨k1, k2⟩
  · rw [h2, k2]
  · exact absurd h1 k1
  · exact absurd k1 h1
  · rw [h2, k2]
theorem walk_ExactCutOf (n : Int) (A : Option Addr) (c : Nat) (L : List Ln) (p q : Int) (F : Option Addr) (cf : Nat) (f : List Int) (hl : L.length ≤ maxLen) (hf : f.length ≤ maxLen) (w : World) (hL : Lns w w.heap.size A L) (hF : Iv w 0 w.heap.size F f) :
    Calls Try.prog 6 #[.int .i64 n, .slice A L.length c, .int .i64 p, .int .i64 q, .slice F f.length cf] w fun e w' => e = .returned (.bool true) ∧ Below w.heap.size w w' := by
  have hf' := hf
  unfold maxLen at hf'
  by_cases hfb : 1048576 < f.length
  · go_enter Try.func6, Try.ntmps6
    go_wp2_with fail
    go_ret
    exact ⟨rfl, Below.refl _ _⟩
  by_cases hbig : (1048576 : Int) - L.length < 0
  · have hsz := szLineS_any A L.length c hl 1048576 (by omega) (by omega)
    rw [if_pos hbig] at hsz
    replace hsz := Lib.hid hsz
    go_enter Try.func6, Try.ntmps6
    go_wp2_with fail
    refine (hsz.out _).mono ?_
    rintro e w1 ⟨rfl, rfl⟩
    go_wp2_with fail
    go_ret
    exact ⟨rfl, Below.refl _ _⟩
  · have hsz := szLineS_any A L.length c hl 1048576 (by omega) (by omega)
    rw [if_neg hbig] at hsz
    replace hsz := Lib.hid hsz
    have hl' : L.length ≤ 1048576 := by omega
    have hf'' : f.length ≤ 1048576 := by omega
    go_enter Try.func6, Try.ntmps6
    go_wp2_with fail
    refine (hsz.out _).mono ?_
    rintro e w1 ⟨rfl, rfl⟩
    go_wp2_with fail
    refine (toLineS_any A c L hl' _ hL).mono ?_
    rintro e w1 ⟨g1, rfl, hr1, hg1, hb1⟩
    go_wp2_with fail
    refine (toIntS_any F cf f hf'' _ ((hF.below hb1 (Nat.le_refl _)).more (Nat.le_refl _) hb1.size)).mono ?_
    rintro e w2 ⟨g2, rfl, hr2, hg2, hb2⟩
    have hr12 := hr1.below hb2 hr1.lt
    replace hb2 := hb1.trans (hb2.mono hb1.size)
    clear hb1 hr1
    go_wp2_with fail
    refine (sCutOf n _ _ L p q _ _ f hl' hf'' _ (hr12.lns hr12.lt) (hr2.iv (Nat.zero_le _) hr2.lt)).mono ?_
    rintro e w3 ⟨r, rfl, hr, hb3⟩
    replace hb3 := hb2.trans (hb3.mono hb2.size)
    replace hr := Lib.hid hr
    clear hb2 hr2 hr12
    go_wp2_with fail
    refine (toLineS_any A c L hl' _ ((hL.below hb3).more hb3.size)).mono ?_
    rintro e w4 ⟨g4, rfl, hr4, hg4, hb4⟩
    replace hb4 := hb3.trans (hb4.mono hb3.size)
    clear hb3
    go_wp2_with fail
    refine (toIntS_any F cf f hf'' _ ((hF.below hb4 (Nat.le_refl _)).more (Nat.le_refl _) hb4.size)).mono ?_
    rintro e w5 ⟨g5, rfl, hr5, hg5, hb5⟩
    have hr45 := hr4.below hb5 hr4.lt
    replace hb5 := hb4.trans (hb5.mono hb4.size)
    clear hb4 hr4
    go_wp2_with fail
    refine (iCutOf n _ _ L p q _ _ f hl' hf'' _ (hr45.lns hr45.lt) (hr5.iv (Nat.zero_le _) hr5.lt)).mono ?_
    rintro e w6 ⟨s, rfl, hs, hb6⟩
    have hr46 := hr45.below hb6 hr45.lt
    have hr56 := hr5.below hb6 hr5.lt
    replace hb6 := hb5.trans (hb6.mono hb5.size)
    obtain rfl := CutPost_uniq hr.out hs
    clear hb5 hr45 hr5 hs
    go_wp2_with fail
    refine (toLineS_any A c L hl' _ ((hL.below hb6).more hb6.size)).mono ?_
    rintro e w7 ⟨g7, rfl, hr7, hg7, hb7⟩
    have hr47 := hr46.below hb7 hr46.lt
    have hr57 := hr56.below hb7 hr56.lt
    replace hb7 := hb6.trans (hb7.mono hb6.size)
    clear hb6 hr46 hr56
    go_wp2_with fail
    refine (eqLineS_same _ _ _ _ L hl' _ (hr47.lns hr47.lt) (hr7.lns hr7.lt)).mono ?_
    rintro e w8 ⟨rfl, hb8⟩
    have hr58 := hr57.below hb8 hr57.lt
    replace hb8 := hb7.trans (hb8.mono hb7.size)
    clear hb7 hr57 hr47 hr7
    go_wp2_with fail
    refine (toIntS_any F cf f hf'' _ ((hF.below hb8 (Nat.le_refl _)).more (Nat.le_refl _) hb8.size)).mono ?_
    rintro e w9 ⟨g9, rfl, hr9, hg9, hb9⟩
    have hr59 := hr58.below hb9 hr58.lt
    replace hb9 := hb8.trans (hb9.mono hb8.size)
    clear hb8 hr58
    go_wp2_with fail
    refine (eqIntS_same _ _ _ _ _ _ _ _ f hf'' _ (hr59.iv (Nat.zero_le _) hr59.lt) (hr9.iv (Nat.zero_le _) hr9.lt)).mono ?_
    rintro e w10 ⟨rfl, hb10⟩
    replace hb10 := hb9.trans (hb10.mono hb9.size)
    clear hb9
    go_wp2_with fail
    go_ret
    exact ⟨rfl, hb10⟩
theorem law_ExactCutOf (a0 : Int) (a1 : Option Addr) (len1 cap1 : Nat) (z1 : List Ln) (a2 a3 : Int) (a4 : Option Addr) (len4 cap4 : Nat) (z4 : List Int) (w : World) (_w0 : (Lit.int .i64 a0).wf = true) (w1 : ArgL w a1 len1 cap1 z1) (_w2 : (Lit.int .i64 a2).wf = true) (_w3 : (Lit.int .i64 a3).wf = true) (w4 : ArgI w a4 len4 cap4 z4) :
    Calls Try.prog 6 #[.int .i64 a0, .slice a1 len1 cap1, .int .i64 a2, .int .i64 a3, .slice a4 len4 cap4] w fun e w' => e = .returned (.bool true) ∧ Below w.heap.size w w' := by
  obtain ⟨rfl, hm, hL⟩ := w1
  obtain ⟨f, rfl, hf, _, hF⟩ := w4.iv
  exact walk_ExactCutOf a0 a1 cap1 z1 a2 a3 a4 cap4 f hm hf w hL hF
end Go.Proofs.Ytfppgdgbljfpkaa
