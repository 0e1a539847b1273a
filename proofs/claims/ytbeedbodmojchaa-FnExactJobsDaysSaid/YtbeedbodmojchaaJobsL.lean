/- Laws of the kind 'the program answers as the reference does', walked (these lines are printed by lawgen.py). -/
import Derived.Test.YtbeedbodmojchaaJobs
import Derived.Test.YtbeedbodmojchaaArgJ
namespace Go.Proofs.Ytbeedbodmojchaa
set_option linter.unusedVariables false
set_option linter.unusedSimpArgs false
open Go.RowKit
set_option maxRecDepth 100000 in
theorem walk_ExactJobsValid (A0 : Option Addr) (c0 : Nat) (x0 : List Jb) (hn0 : x0.length ≤ maxLen) (w : World) (hm0 : Jbs w w.heap.size A0 x0) :
    Calls Try.prog 3 #[.slice A0 x0.length c0] w fun e w' => e = .returned (.bool true) ∧ Below w.heap.size w w' := by
  have hsz0 := szJobS_any A0 x0.length c0 hn0 1048576 (by omega) (by omega)
  by_cases hbig0 : (1048576 : Int) - x0.length < 0
  · rw [if_pos hbig0] at hsz0
    replace hsz0 := Lib.hid hsz0
    go_enter Try.func3, Try.ntmps3
    go_wp2_with fail
    refine (hsz0.out _).mono ?_
    rintro e w1 ⟨rfl, rfl⟩
    go_wp2_with fail
    go_ret
    exact ⟨rfl, Below.refl _ _⟩
  rw [if_neg hbig0] at hsz0
  replace hsz0 := Lib.hid hsz0
  have hn0' : x0.length ≤ 1048576 := by omega
  go_enter Try.func3, Try.ntmps3
  go_wp2_with fail
  refine (hsz0.out _).mono ?_
  rintro e w1 ⟨rfl, rfl⟩
  have hb := Below.refl w.heap.size w
  go_wp2_with fail
  refine (toJobS_any A0 c0 x0 hn0' _ ((hm0.below hb).more hb.size)).mono ?_
  rintro e w1 ⟨gs0, rfl, hrs0, hgs0, hb1⟩
  clear hgs0
  replace hb := hb.trans (hb1.mono hb.size)
  clear hb1
  go_wp2_with fail
  refine (specJobsB _ _ x0 hn0' _ (hrs0.jbs hrs0.lt)).mono ?_
  rintro e w2 ⟨rs, rfl, hRs, hb2⟩
  replace hRs := Lib.hid hRs
  clear hrs0
  replace hb := hb.trans (hb2.mono hb.size)
  clear hb2
  go_wp2_with fail
  refine (toJobS_any A0 c0 x0 hn0' _ ((hm0.below hb).more hb.size)).mono ?_
  rintro e w3 ⟨gp0, rfl, hrp0, hgp0, hb3⟩
  clear hgp0
  replace hb := hb.trans (hb3.mono hb.size)
  clear hb3
  go_wp2_with fail
  refine (implJobsB _ _ x0 hn0' _ (hrp0.jbs hrp0.lt)).mono ?_
  rintro e w4 ⟨rp, rfl, hRp, hb4⟩
  have e1 := eq2 hRs.out hRp
  subst e1
  clear hRp hRs
  replace hrp0 := hrp0.below hb4 hrp0.lt
  replace hb := hb.trans (hb4.mono hb.size)
  clear hb4
  go_wp2_with fail
  refine (toJobS_any A0 c0 x0 hn0' _ ((hm0.below hb).more hb.size)).mono ?_
  rintro e w5 ⟨g0, rfl, hr0, hg0, hb5⟩
  replace hrp0 := hrp0.below hb5 hrp0.lt
  replace hb := hb.trans (hb5.mono hb.size)
  clear hb5
  go_wp2_with fail
  refine (eqJobS_same _ _ _ _ x0 hn0' _ (hrp0.jbs hrp0.lt) (hr0.jbs hr0.lt)).mono ?_
  rintro e w6 ⟨rfl, hb6⟩
  clear hr0 hg0
  replace hrp0 := hrp0.below hb6 hrp0.lt
  replace hb := hb.trans (hb6.mono hb.size)
  clear hb6
  go_wp2_with fail
  go_ret
  exact ⟨rfl, hb⟩
theorem law_ExactJobsValid (a0 : Option Addr) (len0 cap0 : Nat) (z0 : List Jb) (w : World) (w0 : ArgJ w a0 len0 cap0 z0) :
    Calls Try.prog 3 #[.slice a0 len0 cap0] w fun e w' => e = .returned (.bool true) ∧ Below w.heap.size w w' := by
  obtain ⟨rfl, hl0, hm0⟩ := w0
  exact walk_ExactJobsValid a0 cap0 z0 hl0 w hm0
set_option maxRecDepth 100000 in
theorem walk_ExactJobsDays (A0 : Option Addr) (c0 : Nat) (x0 : List Jb) (hn0 : x0.length ≤ maxLen) (w : World) (hm0 : Jbs w w.heap.size A0 x0) :
    Calls Try.prog 4 #[.slice A0 x0.length c0] w fun e w' => e = .returned (.bool true) ∧ Below w.heap.size w w' := by
  have hsz0 := szJobS_any A0 x0.length c0 hn0 1048576 (by omega) (by omega)
  by_cases hbig0 : (1048576 : Int) - x0.length < 0
  · rw [if_pos hbig0] at hsz0
    replace hsz0 := Lib.hid hsz0
    go_enter Try.func4, Try.ntmps4
    go_wp2_with fail
    refine (hsz0.out _).mono ?_
    rintro e w1 ⟨rfl, rfl⟩
    go_wp2_with fail
    go_ret
    exact ⟨rfl, Below.refl _ _⟩
  rw [if_neg hbig0] at hsz0
  replace hsz0 := Lib.hid hsz0
  have hn0' : x0.length ≤ 1048576 := by omega
  go_enter Try.func4, Try.ntmps4
  go_wp2_with fail
  refine (hsz0.out _).mono ?_
  rintro e w1 ⟨rfl, rfl⟩
  have hb := Below.refl w.heap.size w
  go_wp2_with fail
  refine (toJobS_any A0 c0 x0 hn0' _ ((hm0.below hb).more hb.size)).mono ?_
  rintro e w1 ⟨gs0, rfl, hrs0, hgs0, hb1⟩
  clear hgs0
  replace hb := hb.trans (hb1.mono hb.size)
  clear hb1
  go_wp2_with fail
  refine (specDaysI _ _ x0 hn0' _ (hrs0.jbs hrs0.lt)).mono ?_
  rintro e w2 ⟨rs, rfl, hRs, hb2⟩
  replace hRs := Lib.hid hRs
  clear hrs0
  replace hb := hb.trans (hb2.mono hb.size)
  clear hb2
  go_wp2_with fail
  refine (toJobS_any A0 c0 x0 hn0' _ ((hm0.below hb).more hb.size)).mono ?_
  rintro e w3 ⟨gp0, rfl, hrp0, hgp0, hb3⟩
  clear hgp0
  replace hb := hb.trans (hb3.mono hb.size)
  clear hb3
  go_wp2_with fail
  refine (implDaysI _ _ x0 hn0' _ (hrp0.jbs hrp0.lt)).mono ?_
  rintro e w4 ⟨rp, rfl, hRp, hb4⟩
  have e1 := eq2 hRs.out hRp
  subst e1
  clear hRp hRs
  replace hrp0 := hrp0.below hb4 hrp0.lt
  replace hb := hb.trans (hb4.mono hb.size)
  clear hb4
  go_wp2_with fail
  refine (toJobS_any A0 c0 x0 hn0' _ ((hm0.below hb).more hb.size)).mono ?_
  rintro e w5 ⟨g0, rfl, hr0, hg0, hb5⟩
  replace hrp0 := hrp0.below hb5 hrp0.lt
  replace hb := hb.trans (hb5.mono hb.size)
  clear hb5
  go_wp2_with fail
  refine (eqJobS_same _ _ _ _ x0 hn0' _ (hrp0.jbs hrp0.lt) (hr0.jbs hr0.lt)).mono ?_
  rintro e w6 ⟨rfl, hb6⟩
  clear hr0 hg0
  replace hrp0 := hrp0.below hb6 hrp0.lt
  replace hb := hb.trans (hb6.mono hb.size)
  clear hb6
  go_wp2_with fail
  go_ret
  exact ⟨rfl, hb⟩
theorem law_ExactJobsDays (a0 : Option Addr) (len0 cap0 : Nat) (z0 : List Jb) (w : World) (w0 : ArgJ w a0 len0 cap0 z0) :
    Calls Try.prog 4 #[.slice a0 len0 cap0] w fun e w' => e = .returned (.bool true) ∧ Below w.heap.size w w' := by
  obtain ⟨rfl, hl0, hm0⟩ := w0
  exact walk_ExactJobsDays a0 cap0 z0 hl0 w hm0
end Go.Proofs.Ytbeedbodmojchaa
