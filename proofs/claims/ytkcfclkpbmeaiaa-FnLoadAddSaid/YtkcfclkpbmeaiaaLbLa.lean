/- The law FnLoadAdd, walked. -/
import Derived.Test.YtkcfclkpbmeaiaaLawQ
import Derived.Test.YtkcfclkpbmeaiaaDraw4
import Derived.Test.YtkcfclkpbmeaiaaHelp
import Derived.Test.YtkcfclkpbmeaiaaLoad3
import Derived.Test.YtkcfclkpbmeaiaaAdd
namespace Go.Proofs.Ytkcfclkpbmeaiaa
set_option linter.unusedVariables false
set_option linter.unusedSimpArgs false
open Go.RowKit
set_option maxRecDepth 100000 in
theorem law_LoadAdd (a0 : Option Addr) (len0 cap0 : Nat) (z0 : List Int) (w : World) (w0 : ArgB w a0 len0 cap0 z0) :
    Calls Try.prog 6 #[.slice a0 len0 cap0] w fun e w' => e = .returned (.bool true) ∧ Below w.heap.size w w' := by
  obtain ⟨hl0, hm0, hby0⟩ := w0.byt
  have hm0' := hm0
  unfold maxLen at hm0'
  by_cases h0 : 1048576 < len0
  · go_enter Try.func6, Try.ntmps6
    go_wp2_with fail
    go_ret
    exact ⟨rfl, Below.refl _ _⟩
  have hdr := Lib.hid (drawLoadAdd a0 len0 cap0 hl0 hm0 _ hby0)
  go_enter Try.func6, Try.ntmps6
  go_wp2_with fail
  refine hdr.out.mono ?_
  rintro e w1 ⟨n, A, c, L, p, q, F, cf, f, G, cg, g, rfl, hn2, hn5, hL7, hp0, hp5, hq0, hq5, hoL, hoF, hf7, hoG, hg7, hbw⟩
  have hcc : L.length ≤ c ∧ c ≤ maxLen := by
    obtain ⟨A0, c0, e0, h1, h2⟩ := hoL.form
    injection e0 with _ _ e0
    subst e0
    exact ⟨h1, h2⟩
  replace hcc := Lib.hid hcc
  have hL : Hid (Lns w1 w1.heap.size A L) := hoL.lns
  have hL1 : L.length ≤ 1048576 := by omega
  have hb := Below.refl w1.heap.size w1
  clear hdr hoL hby0 hm0
  have hf1 : f.length ≤ 1048576 := by omega
  have hg1 : g.length ≤ 1048576 := by omega
  go_wp2_with fail
  refine (iLoadAdd n A c L p q F cf f G cg g hL1 hf1 hg1 _ ((hL.out.below hb).more hb.size) (hoF.iv.more (Nat.zero_le _) (Nat.le_refl _)) (hoG.iv.more (Nat.zero_le _) (Nat.le_refl _))).mono ?_
  rintro e w2 ⟨A2, c2, xs, ok, rfl, hR, hO2, hb2⟩
  replace hoF := hoF.below hb2
  replace hoG := hoG.below hb2
  replace hb := hb.trans (hb2.mono hb.size)
  clear hb2
  replace hR := Lib.hid hR
  go_wp2_with fail
  refine (sLoadAdd n A c L p q F cf f G cg g hL1 hf1 hg1 _ ((hL.out.below hb).more hb.size) (hoF.iv.more (Nat.zero_le _) (Nat.le_refl _)) (hoG.iv.more (Nat.zero_le _) (Nat.le_refl _))).mono ?_
  rintro e w3 ⟨A3, c3, xs', ok', rfl, hR', hO3, hb3⟩
  replace hoF := hoF.below hb3
  replace hoG := hoG.below hb3
  replace hO2 := hO2.below hb3
  replace hb := hb.trans (hb3.mono hb.size)
  clear hb3
  obtain ⟨e1, e2⟩ := (AddR_fn _ _ _ _ _ _) _ _ _ _ hR' hR.out
  subst e1 e2
  clear hR'
  have hx7 : xs'.length ≤ 7 := by
    rcases hR.out with ⟨_, e, _⟩ | ⟨_, e, _⟩
    · rw [e, sumL, List.length_zipWith]; omega
    · rw [e]; simp
  have hx1 : xs'.length ≤ 1048576 := by omega
  cases ok' with
  | false =>
    go_wp2_with fail
    refine (sameInts_same _ _ _ _ _ _ _ _ xs' hx1 _ hO2.iv hO3.iv).mono ?_
    rintro e w4 ⟨rfl, hb4⟩
    replace hoF := hoF.below hb4
    replace hoG := hoG.below hb4
    replace hO2 := hO2.below hb4
    replace hO3 := hO3.below hb4
    replace hb := hb.trans (hb4.mono hb.size)
    clear hb4
    go_wp2_with fail
    refine (sameInts_same _ _ _ _ _ _ _ _ xs' hx1 _ hO2.iv hO3.iv).mono ?_
    rintro e w5 ⟨rfl, hb5⟩
    replace hoF := hoF.below hb5
    replace hoG := hoG.below hb5
    replace hO2 := hO2.below hb5
    replace hO3 := hO3.below hb5
    replace hb := hb.trans (hb5.mono hb.size)
    clear hb5
    go_wp2_with fail
    go_ret
    exact ⟨rfl, hbw.trans (hb.mono hbw.size)⟩
  | true =>
    go_wp2_with fail
    refine (sameInts_same _ _ _ _ _ _ _ _ xs' hx1 _ hO2.iv hO3.iv).mono ?_
    rintro e w4 ⟨rfl, hb4⟩
    replace hoF := hoF.below hb4
    replace hoG := hoG.below hb4
    replace hO2 := hO2.below hb4
    replace hO3 := hO3.below hb4
    replace hb := hb.trans (hb4.mono hb.size)
    clear hb4
    clear hO3
    have hS := Lib.hid (add_swap hR.out)
    go_wp2_with fail
    refine (iLoadAdd n A c L p q G cg g F cf f hL1 hg1 hf1 _ ((hL.out.below hb).more hb.size) (hoG.iv.more (Nat.zero_le _) (Nat.le_refl _)) (hoF.iv.more (Nat.zero_le _) (Nat.le_refl _))).mono ?_
    rintro e w5 ⟨A4, c4, ys, ok, rfl, hY, hO4, hb5⟩
    replace hoF := hoF.below hb5
    replace hoG := hoG.below hb5
    replace hO2 := hO2.below hb5
    replace hb := hb.trans (hb5.mono hb.size)
    clear hb5
    obtain ⟨e1, rfl⟩ := add_back hY hS.out.2.1 hS.out.2.2.1 hS.out.2.2.2.1
    obtain rfl : ys = xs' := e1.trans hS.out.1.symm
    clear hY e1
    go_wp2_with fail
    refine (sameInts_same _ _ _ _ _ _ _ _ ys hx1 _ hO4.iv hO2.iv).mono ?_
    rintro e w6 ⟨rfl, hb6⟩
    replace hoF := hoF.below hb6
    replace hoG := hoG.below hb6
    replace hO2 := hO2.below hb6
    replace hO4 := hO4.below hb6
    replace hb := hb.trans (hb6.mono hb.size)
    clear hb6
    clear hO4
    have hb3 : Hid (∀ f', LoadP n L p q f' → -90 ≤ outAt L f' p ∧ outAt L f' p ≤ 90) := fun f' h => by
      obtain ⟨n2, n6, hlen10, hin⟩ := netOk_n (twoOk_n h.1).1
      have := outAt_bound hin h.2.2.1 p
      exact ⟨by omega, by omega⟩
    have hSP : Hid (LoadP n L p q ys ∧ outAt L ys p = outAt L f p + outAt L g p) := by
      show _ ∧ _
      have h := hS.out
      rw [h.1]; exact h.2.2.2
    go_wp2_with fail
    refine (iLoadTraffic n A c L p q _ _ ys hL1 hx1 _ ((hL.out.below hb).more hb.size) (hO2.iv.more (Nat.zero_le _) (Nat.le_refl _))).mono ?_
    rintro e w7 ⟨t1, rfl, ht1, hb7⟩
    replace hoF := hoF.below hb7
    replace hoG := hoG.below hb7
    replace hO2 := hO2.below hb7
    replace hb := hb.trans (hb7.mono hb.size)
    clear hb7
    replace ht1 : Hid (t1 = outAt L ys p) := by
      rcases ht1 with ⟨_, e⟩ | ⟨h, _⟩
      · exact e
      · exact absurd hSP.out.1 h
    go_wp2_with fail
    refine (iLoadTraffic n A c L p q F cf f hL1 hf1 _ ((hL.out.below hb).more hb.size) (hoF.iv.more (Nat.zero_le _) (Nat.le_refl _))).mono ?_
    rintro e w8 ⟨t2, rfl, ht2, hb8⟩
    replace hoF := hoF.below hb8
    replace hoG := hoG.below hb8
    replace hO2 := hO2.below hb8
    replace hb := hb.trans (hb8.mono hb.size)
    clear hb8
    replace ht2 : Hid (t2 = outAt L f p) := by
      rcases ht2 with ⟨_, e⟩ | ⟨h, _⟩
      · exact e
      · exact absurd hS.out.2.1 h
    go_wp2_with fail
    refine (iLoadTraffic n A c L p q G cg g hL1 hg1 _ ((hL.out.below hb).more hb.size) (hoG.iv.more (Nat.zero_le _) (Nat.le_refl _))).mono ?_
    rintro e w9 ⟨t3, rfl, ht3, hb9⟩
    replace hoF := hoF.below hb9
    replace hoG := hoG.below hb9
    replace hO2 := hO2.below hb9
    replace hb := hb.trans (hb9.mono hb.size)
    clear hb9
    replace ht3 : Hid (t3 = outAt L g p) := by
      rcases ht3 with ⟨_, e⟩ | ⟨h, _⟩
      · exact e
      · exact absurd hS.out.2.2.1 h
    have hsum : t1 = t2 + t3 := by rw [ht1.out, ht2.out, ht3.out]; exact hSP.out.2
    have h2b := hb3.out f hS.out.2.1
    have h3b := hb3.out g hS.out.2.2.1
    rw [← ht2.out] at h2b
    rw [← ht3.out] at h3b
    subst hsum
    clear ht1 ht2 ht3
    go_wp2_with fail
    go_ret
    exact ⟨rfl, hbw.trans (hb.mono hbw.size)⟩
end Go.Proofs.Ytkcfclkpbmeaiaa
