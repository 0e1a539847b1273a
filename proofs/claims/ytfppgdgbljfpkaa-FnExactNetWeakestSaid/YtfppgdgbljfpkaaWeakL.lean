/- Laws of the kind 'the program answers as the reference does', walked (these lines are printed by lawgen.py). -/
import Derived.Test.YtfppgdgbljfpkaaWeak
import Derived.Test.YtfppgdgbljfpkaaMark
import Derived.Test.YtfppgdgbljfpkaaArg
namespace Go.Proofs.Ytfppgdgbljfpkaa
set_option linter.unusedVariables false
set_option linter.unusedSimpArgs false
open Go.RowKit
set_option maxRecDepth 100000 in
theorem walk_ExactNetWeakest (a0 : Int) (A1 : Option Addr) (c1 : Nat) (x1 : List Ln) (a2 : Int) (a3 : Int) (hn1 : x1.length ≤ maxLen) (w : World) (hm1 : Lns w w.heap.size A1 x1) :
    Calls Try.prog 13 #[.int .i64 a0, .slice A1 x1.length c1, .int .i64 a2, .int .i64 a3] w fun e w' => e = .returned (.bool true) ∧ Below w.heap.size w w' := by
  have hsz1 := szLineS_any A1 x1.length c1 hn1 1048576 (by omega) (by omega)
  by_cases hbig1 : (1048576 : Int) - x1.length < 0
  · rw [if_pos hbig1] at hsz1
    replace hsz1 := Lib.hid hsz1
    go_enter Try.func13, Try.ntmps13
    go_wp2_with fail
    refine (hsz1.out _).mono ?_
    rintro e w1 ⟨rfl, rfl⟩
    go_wp2_with fail
    go_ret
    exact ⟨rfl, Below.refl _ _⟩
  rw [if_neg hbig1] at hsz1
  replace hsz1 := Lib.hid hsz1
  have hn1' : x1.length ≤ 1048576 := by omega
  go_enter Try.func13, Try.ntmps13
  go_wp2_with fail
  refine (hsz1.out _).mono ?_
  rintro e w1 ⟨rfl, rfl⟩
  have hb := Below.refl w.heap.size w
  go_wp2_with fail
  refine (toLineS_any A1 c1 x1 hn1' _ ((hm1.below hb).more hb.size)).mono ?_
  rintro e w1 ⟨gs1, rfl, hrs1, hgs1, hb1⟩
  clear hgs1
  replace hb := hb.trans (hb1.mono hb.size)
  clear hb1
  go_wp2_with fail
  refine (sWeak' a0 _ _ x1 a2 a3 hn1' _ (hrs1.lns hrs1.lt)).mono ?_
  rintro e w2 ⟨rs, oks, rfl, hRs, hb2⟩
  replace hRs := Lib.hid hRs
  clear hrs1
  replace hb := hb.trans (hb2.mono hb.size)
  clear hb2
  go_wp2_with fail
  refine (toLineS_any A1 c1 x1 hn1' _ ((hm1.below hb).more hb.size)).mono ?_
  rintro e w3 ⟨gp1, rfl, hrp1, hgp1, hb3⟩
  clear hgp1
  replace hb := hb.trans (hb3.mono hb.size)
  clear hb3
  go_wp2_with fail
  refine (iWeak' a0 _ _ x1 a2 a3 hn1' _ (hrp1.lns hrp1.lt)).mono ?_
  rintro e w4 ⟨rp, okp, rfl, hRp, hb4⟩
  obtain ⟨e1, e2⟩ := WeakR_fn _ _ _ _ hRs.out hRp
  subst e1 e2
  clear hRp hRs
  replace hrp1 := hrp1.below hb4 hrp1.lt
  replace hb := hb.trans (hb4.mono hb.size)
  clear hb4
  go_wp2_with fail
  refine (toLineS_any A1 c1 x1 hn1' _ ((hm1.below hb).more hb.size)).mono ?_
  rintro e w5 ⟨g1, rfl, hr1, hg1, hb5⟩
  replace hrp1 := hrp1.below hb5 hrp1.lt
  replace hb := hb.trans (hb5.mono hb.size)
  clear hb5
  go_wp2_with fail
  refine (eqLineS_same _ _ _ _ x1 hn1' _ (hrp1.lns hrp1.lt) (hr1.lns hr1.lt)).mono ?_
  rintro e w6 ⟨rfl, hb6⟩
  clear hr1 hg1
  replace hrp1 := hrp1.below hb6 hrp1.lt
  replace hb := hb.trans (hb6.mono hb.size)
  clear hb6
  go_wp2_with fail
  go_ret
  exact ⟨rfl, hb⟩
theorem law_ExactNetWeakest (a0 : Int) (a1 : Option Addr) (len1 cap1 : Nat) (z1 : List Ln) (a2 : Int) (a3 : Int) (w : World) (_w0 : (Lit.int .i64 a0).wf = true) (w1 : ArgL w a1 len1 cap1 z1) (_w2 : (Lit.int .i64 a2).wf = true) (_w3 : (Lit.int .i64 a3).wf = true) :
    Calls Try.prog 13 #[.int .i64 a0, .slice a1 len1 cap1, .int .i64 a2, .int .i64 a3] w fun e w' => e = .returned (.bool true) ∧ Below w.heap.size w w' := by
  obtain ⟨rfl, hl1, hm1⟩ := w1
  exact walk_ExactNetWeakest a0 a1 cap1 z1 a2 a3 hl1 w hm1
end Go.Proofs.Ytfppgdgbljfpkaa
