/- The law FnExactNetValid, walked. -/
import Derived.Test.YtfppgdgbljfpkaaNet
import Derived.Test.YtfppgdgbljfpkaaArg
namespace Go.Proofs.Ytfppgdgbljfpkaa
set_option linter.unusedVariables false
set_option linter.unusedSimpArgs false
open Go.RowKit
theorem walk_ExactNetValid (n : Int) (A : Option Addr) (c : Nat) (L : List Ln) (hl : L.length ≤ maxLen) (w : World) (hL : Lns w w.heap.size A L) :
    Calls Try.prog 3 #[.int .i64 n, .slice A L.length c] w fun e w' => e = .returned (.bool true) ∧ Below w.heap.size w w' := by
  by_cases hbig : (1048576 : Int) - L.length < 0
  · have hsz := szLineS_any A L.length c hl 1048576 (by omega) (by omega)
    rw [if_pos hbig] at hsz
    replace hsz := Lib.hid hsz
    go_enter Try.func3, Try.ntmps3
    go_wp2_with fail
    refine (hsz.out _).mono ?_
    rintro e w1 ⟨rfl, rfl⟩
    go_wp2_with fail
    go_ret
    exact ⟨rfl, Below.refl _ _⟩
  · have hsz := szLineS_any A L.length c hl 1048576 (by omega) (by omega)
    rw [if_neg hbig] at hsz
    replace hsz := Lib.hid hsz
    have hl' : L.length ≤ 1048576 := by omega
    go_enter Try.func3, Try.ntmps3
    go_wp2_with fail
    refine (hsz.out _).mono ?_
    rintro e w1 ⟨rfl, rfl⟩
    go_wp2_with fail
    refine (toLineS_any A c L hl' _ hL).mono ?_
    rintro e w1 ⟨g1, rfl, hr1, hg1, hb1⟩
    go_wp2_with fail
    refine (specNet n _ _ L hl' _ (hr1.lns hr1.lt)).mono ?_
    rintro e w2 ⟨rfl, hb2⟩
    replace hb2 := hb1.trans (hb2.mono hb1.size)
    clear hb1 hr1
    go_wp2_with fail
    refine (toLineS_any A c L hl' _ ((hL.below hb2).more hb2.size)).mono ?_
    rintro e w3 ⟨g3, rfl, hr3, hg3, hb3⟩
    replace hb3 := hb2.trans (hb3.mono hb2.size)
    clear hb2
    go_wp2_with fail
    refine (implNet n _ _ L hl' _ (hr3.lns hr3.lt)).mono ?_
    rintro e w4 ⟨rfl, hb4⟩
    have hr4 := hr3.below hb4 hr3.lt
    replace hb4 := hb3.trans (hb4.mono hb3.size)
    clear hb3 hr3
    go_wp2_with fail
    refine (toLineS_any A c L hl' _ ((hL.below hb4).more hb4.size)).mono ?_
    rintro e w5 ⟨g5, rfl, hr5, hg5, hb5⟩
    have hr45 := hr4.below hb5 hr4.lt
    replace hb5 := hb4.trans (hb5.mono hb4.size)
    clear hb4 hr4
    go_wp2_with fail
    refine (eqLineS_same _ _ _ _ L hl' _ (hr45.lns hr45.lt) (hr5.lns hr5.lt)).mono ?_
    rintro e w6 ⟨rfl, hb6⟩
    replace hb6 := hb5.trans (hb6.mono hb5.size)
    clear hb5
    go_wp2_with fail
    go_ret
    exact ⟨rfl, hb6⟩
theorem law_ExactNetValid (a0 : Int) (a1 : Option Addr) (len1 cap1 : Nat) (z1 : List Ln) (w : World) (_w0 : (Lit.int .i64 a0).wf = true) (w1 : ArgL w a1 len1 cap1 z1) :
    Calls Try.prog 3 #[.int .i64 a0, .slice a1 len1 cap1] w fun e w' => e = .returned (.bool true) ∧ Below w.heap.size w w' := by
  obtain ⟨rfl, hm, hL⟩ := w1
  exact walk_ExactNetValid a0 a1 cap1 z1 hm w hL
end Go.Proofs.Ytfppgdgbljfpkaa
