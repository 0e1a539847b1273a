/- The law FnMostTraffic, walked. -/
import Derived.Test.YtkcfclkpbmeaiaaLawP
import Derived.Test.YtkcfclkpbmeaiaaTwo
import Derived.Test.YtkcfclkpbmeaiaaCutW3
import Derived.Test.YtkcfclkpbmeaiaaLoad3
import Derived.Test.YtkcfclkpbmeaiaaLeast2
namespace Go.Proofs.Ytkcfclkpbmeaiaa
set_option linter.unusedVariables false
set_option linter.unusedSimpArgs false
open Go.RowKit
set_option maxRecDepth 100000 in
theorem law_MostTraffic (a0 : Option Addr) (len0 cap0 : Nat) (z0 : List Int) (w : World) (w0 : ArgB w a0 len0 cap0 z0) :
    Calls Try.prog 10 #[.slice a0 len0 cap0] w fun e w' => e = .returned (.bool true) ∧ Below w.heap.size w w' := by
  obtain ⟨hl0, hm0, hby0⟩ := w0.byt
  have hm0' := hm0
  unfold maxLen at hm0'
  by_cases h0 : 1048576 < len0
  · go_enter Try.func10, Try.ntmps10
    go_wp2_with fail
    go_ret
    exact ⟨rfl, Below.refl _ _⟩
  have hdr := Lib.hid (drawTrafficMost a0 len0 cap0 hl0 hm0 _ hby0)
  go_enter Try.func10, Try.ntmps10
  go_wp2_with fail
  refine hdr.out.mono ?_
  rintro e w1 ⟨n, A, c, L, p, q, rfl, hn2, hn5, hL7, hp0, hp5, hq0, hq5, hoL, hbw⟩
  have hL : Hid (Lns w1 w1.heap.size A L) := hoL.lns
  have hL1 : L.length ≤ 1048576 := by omega
  have hb := Below.refl w1.heap.size w1
  clear hdr hoL hby0 hm0
  go_wp2_with fail
  refine (iTrafficMost n A c L p q hL1 _ ((hL.out.below hb).more hb.size)).mono ?_
  rintro e w2 ⟨r, rfl, hr, hb2⟩
  replace hb := hb.trans (hb2.mono hb.size)
  clear hb2
  replace hr := Lib.hid hr
  go_wp2_with fail
  refine (sTrafficMost n A c L p q hL1 _ ((hL.out.below hb).more hb.size)).mono ?_
  rintro e w3 ⟨r', rfl, hr', hb3⟩
  replace hb := hb.trans (hb3.mono hb.size)
  clear hb3
  obtain rfl : r' = r := hr'.trans hr.out.symm
  clear hr'
  by_cases hneg : r' < 0
  · go_wp2_with fail
    go_ret
    exact ⟨rfl, hbw.trans (hb.mono hbw.size)⟩
  have h2 := Lib.hid (mostV_off (by rw [← hr.out]; exact hneg))
  go_wp2_with fail
  refine (iCutLeast n A c L p q hL1 _ ((hL.out.below hb).more hb.size)).mono ?_
  rintro e w4 ⟨A2, c2, xs, ok, rfl, hR, hO2, hb4⟩
  replace hb := hb.trans (hb4.mono hb.size)
  clear hb4
  obtain rfl : ok = true := hR.ok.trans h2.out
  have hC := Lib.hid (least_is' hR)
  have hx1 := LeastR_len hR
  clear hR
  go_wp2_with fail
  refine (iTrafficLoad n A c L p q hL1 _ ((hL.out.below hb).more hb.size)).mono ?_
  rintro e w5 ⟨A3, c3, f, ok, rfl, hf, hO3, hb5⟩
  replace hO2 := hO2.below hb5
  replace hb := hb.trans (hb5.mono hb.size)
  clear hb5
  obtain ⟨rfl, hok⟩ := hf
  obtain rfl := hok.trans h2.out
  clear hok
  have hP := Lib.hid (load_is h2.out)
  have hf1 : (loadV n L p q).length ≤ 1048576 := by rw [hP.out.1.2.1]; exact hL1
  obtain ⟨f, hf⟩ : ∃ f, f = loadV n L p q := ⟨_, rfl⟩
  rw [← hf] at hP hf1 hO3 ⊢
  clear hf
  go_wp2_with fail
  refine (iCutOf n A c L p q _ _ xs hL1 hx1 _ ((hL.out.below hb).more hb.size) (hO2.iv.more (Nat.zero_le _) (Nat.le_refl _))).mono ?_
  rintro e w6 ⟨y, rfl, hy, hb6⟩
  replace hO2 := hO2.below hb6
  replace hO3 := hO3.below hb6
  replace hb := hb.trans (hb6.mono hb.size)
  clear hb6
  obtain rfl : r' = y := by
    rcases hy with ⟨_, e⟩ | ⟨h, _⟩
    · rw [e, hC.out.2]; exact hr.out
    · exact absurd hC.out.1 h
  clear hy
  go_wp2_with fail
  refine (iLoadTraffic n A c L p q _ _ f hL1 hf1 _ ((hL.out.below hb).more hb.size) (hO3.iv.more (Nat.zero_le _) (Nat.le_refl _))).mono ?_
  rintro e w7 ⟨y, rfl, hy, hb7⟩
  replace hO2 := hO2.below hb7
  replace hO3 := hO3.below hb7
  replace hb := hb.trans (hb7.mono hb.size)
  clear hb7
  obtain rfl : r' = y := by
    rcases hy with ⟨_, e⟩ | ⟨h, _⟩
    · rw [e, hP.out.2]; exact hr.out
    · exact absurd hP.out.1 h
  clear hy
  go_wp2_with fail
  refine (iTrafficMost n A c L q p hL1 _ ((hL.out.below hb).more hb.size)).mono ?_
  rintro e w8 ⟨y, rfl, hy, hb8⟩
  replace hO2 := hO2.below hb8
  replace hO3 := hO3.below hb8
  replace hb := hb.trans (hb8.mono hb.size)
  clear hb8
  obtain rfl : r' = y := by rw [hy, mostV_swap h2.out]; exact hr.out
  clear hy
  go_wp2_with fail
  go_ret
  exact ⟨rfl, hbw.trans (hb.mono hbw.size)⟩
end Go.Proofs.Ytkcfclkpbmeaiaa
