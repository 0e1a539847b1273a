/- The law FnNeededLines, walked. -/
import Derived.Deep.QuietTactic
import Derived.Test.YtkcfclkpbmeaiaaLawQ
import Derived.Test.YtkcfclkpbmeaiaaTwo
import Derived.Test.YtkcfclkpbmeaiaaLoad3
import Derived.Test.YtkcfclkpbmeaiaaLeast2
import Derived.Test.YtkcfclkpbmeaiaaHelp
import Derived.Test.YtkcfclkpbmeaiaaNeed
namespace Go.Proofs.Ytkcfclkpbmeaiaa
set_option linter.unusedVariables false
set_option linter.unusedSimpArgs false
open Go.RowKit
set_option maxRecDepth 100000 in
theorem law_NeededLines (a0 : Option Addr) (len0 cap0 : Nat) (z0 : List Int) (w : World) (w0 : ArgB w a0 len0 cap0 z0) :
    Calls Try.prog 13 #[.slice a0 len0 cap0] w fun e w' => e = .returned (.bool true) ∧ Below w.heap.size w w' := by
  obtain ⟨hl0, hm0, hby0⟩ := w0.byt
  have hm0' := hm0
  unfold maxLen at hm0'
  by_cases h0 : 1048576 < len0
  · go_enter Try.func13, Try.ntmps13
    go_wp2_with fail
    go_ret
    exact ⟨rfl, Below.refl _ _⟩
  have hdr := Lib.hid (drawNetNeeded a0 len0 cap0 hl0 hm0 _ hby0)
  go_enter Try.func13, Try.ntmps13
  go_wp2_with fail
  refine hdr.out.mono ?_
  rintro e w1 ⟨n, A, c, L, p, q, rfl, hn2, hn5, hL7, hp0, hp5, hq0, hq5, hoL, hbw⟩
  have hcc : L.length ≤ c ∧ c ≤ maxLen := by
    obtain ⟨A0, c0, e0, h1, h2⟩ := hoL.form
    injection e0 with _ _ e0
    subst e0
    exact ⟨h1, h2⟩
  replace hcc := Lib.hid hcc
  have hL : Hid (Lns w1 w1.heap.size A L) := hoL.lns
  have hL1 : L.length ≤ 1048576 := by omega
  have hb := Below.refl w1.heap.size w1
  clear hdr hoL hby0 hm0
  go_wp2_with fail
  refine (iNeeded n A c L p q hL1 hcc.out.1 hcc.out.2 _ ((hL.out.below hb).more hb.size)).mono ?_
  rintro e w2 ⟨A3, c3, xs, rfl, hR, hO3, hb2⟩
  replace hb := hb.trans (hb2.mono hb.size)
  clear hb2
  replace hR := Lib.hid hR
  go_wp2_with fail
  refine (sNeeded n A c L p q hL1 hcc.out.1 _ ((hL.out.below hb).more hb.size)).mono ?_
  rintro e w3 ⟨A4, c4, xs', rfl, hR', hO4, hb3⟩
  replace hO3 := hO3.below hb3
  replace hb := hb.trans (hb3.mono hb.size)
  clear hb3
  obtain rfl : xs' = xs := hR'.trans hR.out.symm
  clear hR'
  have hx1 : xs'.length ≤ 1048576 := by
    rw [hR.out, needV]
    split
    · have := need_len n L p q L.length; omega
    · simp
  by_cases h0 : xs'.length = 0
  · obtain rfl := List.eq_nil_of_length_eq_zero h0
    go_wp2_with fail
    refine (sameInts_same _ _ _ _ _ _ _ _ [] hx1 _ hO3.iv hO4.iv).mono ?_
    rintro e w4 ⟨rfl, hb4⟩
    replace hO3 := hO3.below hb4
    replace hO4 := hO4.below hb4
    replace hb := hb.trans (hb4.mono hb.size)
    clear hb4
    go_wp2_with fail
    refine (sameInts_same _ _ _ _ _ _ _ _ [] hx1 _ hO3.iv hO4.iv).mono ?_
    rintro e w5 ⟨rfl, hb5⟩
    replace hO3 := hO3.below hb5
    replace hO4 := hO4.below hb5
    replace hb := hb.trans (hb5.mono hb.size)
    clear hb5
    go_wp2_with fail
    go_ret
    exact ⟨rfl, hbw.trans (hb.mono hbw.size)⟩
  have h2 := Lib.hid (need_two (by rw [← hR.out]; exact h0))
  have t0 := bF (show ((xs'.length : Nat) : Int) ≠ 0 by omega)
  clear h0
  go_wp2_with fail
  refine (sameInts_same _ _ _ _ _ _ _ _ xs' hx1 _ hO3.iv hO4.iv).mono ?_
  rintro e w4 ⟨rfl, hb4⟩
  replace hO3 := hO3.below hb4
  replace hO4 := hO4.below hb4
  replace hb := hb.trans (hb4.mono hb.size)
  clear hb4
  clear hO4
  go_wp2_with fail
  refine (iCutLeast n A c L p q hL1 _ ((hL.out.below hb).more hb.size)).mono ?_
  rintro e w5 ⟨A2, c2, ys, ok, rfl, hY, hO2, hb5⟩
  replace hO3 := hO3.below hb5
  replace hb := hb.trans (hb5.mono hb.size)
  clear hb5
  obtain rfl : ok = true := hY.ok.trans h2.out
  have hC := Lib.hid (least_is' hY)
  replace hY := Lib.hid hY
  go_wp2_with fail
  refine (iTrafficLoad n A c L p q hL1 _ ((hL.out.below hb).more hb.size)).mono ?_
  rintro e w6 ⟨A5, c5, f, ok, rfl, ⟨hf, hok⟩, hO5, hb6⟩
  replace hO3 := hO3.below hb6
  replace hO2 := hO2.below hb6
  replace hb := hb.trans (hb6.mono hb.size)
  clear hb6
  obtain rfl : ok = true := hok.trans h2.out
  clear hok
  replace hf := Lib.hid hf
  have hP := Lib.hid (load_is h2.out)
  rw [← hf.out] at hP
  have hfull : Hid (∀ (k : Nat) (l : Ln), L[k]? = some l → ∃ pa pb : Nat, l.a = pa ∧ l.b = pb ∧ pa < ys.length ∧ pb < ys.length ∧ ∃ u v x : Int, ys[pa]? = some u ∧ ys[pb]? = some v ∧ f[k]? = some x ∧ (u ≠ v → decide ((k : Int) ∈ xs') = true) ∧ (decide ((k : Int) ∈ xs') = true → x ≠ 0)) := fun k l hl => by
    obtain ⟨n2, n6, hlen10, hin⟩ := netOk_n (twoOk_n h2.out).1
    have hl' := hin l (List.mem_of_getElem? hl)
    have hxl := hC.out.1.2.1
    obtain ⟨pa, hpa⟩ := Int.eq_ofNat_of_zero_le hl'.1
    obtain ⟨pb, hpb⟩ := Int.eq_ofNat_of_zero_le hl'.2.2.1
    have hu := getD_int (f := ys) (k := pa) (by omega)
    have hv := getD_int (f := ys) (k := pb) (by omega)
    have hkf : k < f.length := by rw [hP.out.1.2.1]; exact (List.getElem?_eq_some_iff.1 hl).1
    refine ⟨pa, pb, hpa, hpb, by omega, by omega, _, _, _, hu, hv, getD_int hkf, fun hne => ?_, fun hm h0 => ?_⟩
    · rw [hR.out]
      exact decide_eq_true (need_cross hY.out hl (by rw [hpa, hpb]; exact hne))
    · have := need_load h2.out (k := k) (by rw [← hR.out]; exact of_decide_eq_true hm)
      rw [← hf.out, getD_int hkf, h0] at this
      exact this rfl
  have hfl := Lib.hid hP.out.1.2.1
  obtain ⟨m, hm⟩ : ∃ m, m = L.length := ⟨_, rfl⟩
  obtain ⟨mf, hmf⟩ : ∃ m, m = f.length := ⟨_, rfl⟩
  obtain ⟨my, hmy⟩ : ∃ m, m = ys.length := ⟨_, rfl⟩
  have hLc := Lib.hid ((hL.out.below hb).more hb.size)
  have hFc := Lib.hid hO5.iv
  have hYc := Lib.hid hO2.iv
  have hXc := Lib.hid hO3
  have hmm : mf = m := by rw [hm, hmf]; exact hfl.out
  rw [← hm] at hL7 ⊢
  rw [← hmf]
  rw [← hmy] at hfull ⊢
  subst hmm
  have Hm := Lib.hid hm
  have Hmf := Lib.hid hmf
  have Hmy := Lib.hid hmy
  have HI : Hid (∀ (k : Nat) (d : Nat) (r : Bool), r = decide ((k : Int) ∈ xs') → Calls Try.prog 47 #[.slice A3 xs'.length c3, .int .i64 k] (w6.drewN d) fun e w' => e = .returned (.bool r) ∧ ∃ m, w' = (w6.drewN d).drewN m) := fun k d r hr => by
    rw [hr]
    exact hasInt_any A3 c3 _ _ xs' k hx1 (w6.drewN d) hXc.out.iv
  clear hm hmf hmy hO2 hO3 hO5
  go_wp2_with fail
  go_loopw [13] (fun i wr => ∃ k d : Nat, k ≤ mf ∧ i = .int .i64 k ∧ wr = w6.drewN d) (fun i _ => mf - (intOf i).toNat)
  case atStart => exact ⟨0, 0, by omega, rfl, rfl⟩
  case round =>
    obtain ⟨k, d, hk, rfl, rfl⟩ := hrel
    by_cases hkm : k < mf
    · obtain ⟨b, off, rfl, hbB, hc⟩ := hLc.out (by rw [← Hm.out]; omega)
      obtain ⟨l, hl⟩ : ∃ l, L[k]? = some l := ⟨L[k]'(by rw [← Hm.out]; exact hkm), List.getElem?_eq_getElem _⟩
      obtain ⟨c1, c2', c3'⟩ := hc k l hl
      obtain ⟨pa, pb, hpa, hpb, hpax, hpbx, u, v, x, hu, hv, hx, huv, hmem⟩ := hfull.out k l hl
      obtain ⟨bf, of, rfl, _, _, hcf⟩ := hFc.out (by rw [← Hmf.out]; omega)
      obtain ⟨by', oy, rfl, _, _, hcy⟩ := hYc.out (by rw [← Hmy.out]; omega)
      have g1 := hcf k x hx
      have g2 := hcy pa u hu
      have g3 := hcy pb v hv
      rw [hpa] at c1
      rw [hpb] at c2'
      obtain ⟨r, hr⟩ : ∃ r, r = decide ((k : Int) ∈ xs') := ⟨_, rfl⟩
      rw [← hr] at huv hmem
      have HIk := Lib.hid (fun d => HI.out k d r hr)
      clear hc hcf hcy hu hv hl hx hpa hpb hr
      by_cases hne : u = v
      · have t1 := nF hne
        cases r with
        | false =>
          clear huv hmem hne
          go_wp2_with fail
          go_quiet (fail)
          go_wp2_with fail
          refine (HIk.out _).mono ?_
          rintro e w8 ⟨rfl, d8, rfl⟩
          go_wp2_with fail
          go_roundw
          case rel => exact ⟨k + 1, _, by omega, by go_num, by first | rfl | exact World.drewN_drewN _ _ _ | trivial⟩
          case measure => simp [intOf]; omega
        | true =>
          have t2 := bF (hmem rfl)
          clear huv hmem hne
          go_wp2_with fail
          go_quiet (fail)
          go_wp2_with fail
          refine (HIk.out _).mono ?_
          rintro e w8 ⟨rfl, d8, rfl⟩
          go_wp2_with fail
          go_roundw
          case rel => exact ⟨k + 1, _, by omega, by go_num, by first | rfl | exact World.drewN_drewN _ _ _ | trivial⟩
          case measure => simp [intOf]; omega
      · obtain rfl : r = true := huv hne
        have t1 := nT hne
        have t2 := bF (hmem rfl)
        have HIq : Hid (∀ x, Calls Try.prog 47 #[.slice A3 xs'.length c3, .int .i64 k] (w6.drewN (d + x)) fun e w' => e = .returned (.bool true) ∧ ∃ m, w' = w6.drewN (d + m)) := fun x =>
          (HIk.out (d + x)).mono fun e w' ⟨he, m, hm⟩ => ⟨he, x + m, by rw [hm, World.drewN_drewN, Nat.add_assoc]⟩
        clear huv hmem hne
        go_wp2_with fail
        go_quiet (first | (go_at_call 47; exact HIq.out _))
        go_wp2_with fail
        refine (HIk.out _).mono ?_
        rintro e w8 ⟨rfl, d8, rfl⟩
        go_wp2_with fail
        go_roundw
        case rel => exact ⟨k + 1, _, by omega, by go_num, by first | rfl | exact World.drewN_drewN _ _ _ | trivial⟩
        case measure => simp [intOf]; omega
    · obtain rfl : k = mf := by omega
      replace hb := below_drewN hb d
      go_wp2_with fail
      go_ret
      exact ⟨rfl, hbw.trans (hb.mono hbw.size)⟩
end Go.Proofs.Ytkcfclkpbmeaiaa
