/- The law FnTrafficLoad, walked. -/
import Derived.Test.YtkcfclkpbmeaiaaLawQ
import Derived.Test.YtkcfclkpbmeaiaaTwo
import Derived.Test.YtkcfclkpbmeaiaaCutW3
import Derived.Test.YtkcfclkpbmeaiaaLoad3
import Derived.Test.YtkcfclkpbmeaiaaLeast2
import Derived.Test.YtkcfclkpbmeaiaaHelp
namespace Go.Proofs.Ytkcfclkpbmeaiaa
set_option linter.unusedVariables false
set_option linter.unusedSimpArgs false
open Go.RowKit
set_option maxRecDepth 100000 in
theorem law_TrafficLoad (a0 : Option Addr) (len0 cap0 : Nat) (z0 : List Int) (w : World) (w0 : ArgB w a0 len0 cap0 z0) :
    Calls Try.prog 9 #[.slice a0 len0 cap0] w fun e w' => e = .returned (.bool true) ∧ Below w.heap.size w w' := by
  obtain ⟨hl0, hm0, hby0⟩ := w0.byt
  have hm0' := hm0
  unfold maxLen at hm0'
  by_cases h0 : 1048576 < len0
  · go_enter Try.func9, Try.ntmps9
    go_wp2_with fail
    go_ret
    exact ⟨rfl, Below.refl _ _⟩
  have hdr := Lib.hid (drawTrafficLoad a0 len0 cap0 hl0 hm0 _ hby0)
  go_enter Try.func9, Try.ntmps9
  go_wp2_with fail
  refine hdr.out.mono ?_
  rintro e w1 ⟨n, A, c, L, p, q, rfl, hn2, hn5, hL7, hp0, hp5, hq0, hq5, hoL, hbw⟩
  have hL : Hid (Lns w1 w1.heap.size A L) := hoL.lns
  have hL1 : L.length ≤ 1048576 := by omega
  have hb := Below.refl w1.heap.size w1
  clear hdr hoL hby0 hm0
  go_wp2_with fail
  refine (iTrafficLoad n A c L p q hL1 _ ((hL.out.below hb).more hb.size)).mono ?_
  rintro e w2 ⟨A3, c3, f, ok, rfl, ⟨hf, hok⟩, hO3, hb2⟩
  replace hb := hb.trans (hb2.mono hb.size)
  clear hb2
  replace hf := Lib.hid hf
  replace hok := Lib.hid hok
  go_wp2_with fail
  refine (sTrafficLoad n A c L p q hL1 _ ((hL.out.below hb).more hb.size)).mono ?_
  rintro e w3 ⟨A4, c4, f', ok', rfl, ⟨hf', hok'⟩, hO4, hb3⟩
  replace hO3 := hO3.below hb3
  replace hb := hb.trans (hb3.mono hb.size)
  clear hb3
  obtain rfl : f' = f := hf'.trans hf.out.symm
  obtain rfl : ok' = ok := hok'.trans hok.out.symm
  clear hf' hok'
  have hf1 : f'.length ≤ 1048576 := by
    rw [hf.out]
    cases h2 : twoOk n L p q with
    | true => rw [(load_is h2).1.2.1]; exact hL1
    | false => rw [loadV, h2]; simp
  cases ok' with
  | false =>
    go_wp2_with fail
    refine (sameInts_same _ _ _ _ _ _ _ _ f' hf1 _ hO3.iv hO4.iv).mono ?_
    rintro e w4 ⟨rfl, hb4⟩
    replace hO3 := hO3.below hb4
    replace hO4 := hO4.below hb4
    replace hb := hb.trans (hb4.mono hb.size)
    clear hb4
    go_wp2_with fail
    refine (sameInts_same _ _ _ _ _ _ _ _ f' hf1 _ hO3.iv hO4.iv).mono ?_
    rintro e w5 ⟨rfl, hb5⟩
    replace hO3 := hO3.below hb5
    replace hO4 := hO4.below hb5
    replace hb := hb.trans (hb5.mono hb.size)
    clear hb5
    go_wp2_with fail
    go_ret
    exact ⟨rfl, hbw.trans (hb.mono hbw.size)⟩
  | true =>
    have h2 := Lib.hid hok.out.symm
    go_wp2_with fail
    refine (sameInts_same _ _ _ _ _ _ _ _ f' hf1 _ hO3.iv hO4.iv).mono ?_
    rintro e w4 ⟨rfl, hb4⟩
    replace hO3 := hO3.below hb4
    replace hO4 := hO4.below hb4
    replace hb := hb.trans (hb4.mono hb.size)
    clear hb4
    clear hO4
    go_wp2_with fail
    refine (iCutLeast n A c L p q hL1 _ ((hL.out.below hb).more hb.size)).mono ?_
    rintro e w5 ⟨A2, c2, xs, ok, rfl, hR, hO2, hb5⟩
    replace hO3 := hO3.below hb5
    replace hb := hb.trans (hb5.mono hb.size)
    clear hb5
    obtain rfl : ok = true := hR.ok.trans h2.out
    have hC := Lib.hid (least_is' hR)
    have hx1 := LeastR_len hR
    have hP := Lib.hid (load_is h2.out)
    rw [← hf.out] at hP
    have hfull : Hid (∀ (k : Nat) (l : Ln) (x : Int), L[k]? = some l → f'[k]? = some x → ∃ pa pb : Nat, l.a = pa ∧ l.b = pb ∧ pa < xs.length ∧ pb < xs.length ∧ 1 ≤ l.c ∧ l.c ≤ 9 ∧ ∃ u v : Int, xs[pa]? = some u ∧ xs[pb]? = some v ∧ ((u = 1 ∧ v = 0 ∧ x = l.c) ∨ (u = 0 ∧ v = 1 ∧ x = 0 - l.c) ∨ (u = 0 ∧ v = 0) ∨ (u = 1 ∧ v = 1))) := fun k l x hl hx => by
      have h := load_full hR hl (by rw [← hf.out]; exact hx)
      have ha := sideF_get (n := 0) hC.out.1.2.2.1 l.a
      have hb := sideF_get (n := 0) hC.out.1.2.2.1 l.b
      obtain ⟨n2, n6, hlen10, hin⟩ := netOk_n (twoOk_n h2.out).1
      have hl' := hin l (List.mem_of_getElem? hl)
      have hxl := hC.out.1.2.1
      obtain ⟨pa, hpa⟩ := Int.eq_ofNat_of_zero_le hl'.1
      obtain ⟨pb, hpb⟩ := Int.eq_ofNat_of_zero_le hl'.2.2.1
      rw [hpa, Int.toNat_natCast] at ha
      rw [hpb, Int.toNat_natCast] at hb
      rw [hpa, hpb] at h
      have hu := getD_int (f := xs) (k := pa) (by omega)
      have hv := getD_int (f := xs) (k := pb) (by omega)
      have bu := hC.out.1.2.2.1 _ (List.mem_of_getElem? hu)
      have bv := hC.out.1.2.2.1 _ (List.mem_of_getElem? hv)
      refine ⟨pa, pb, hpa, hpb, by omega, by omega, by omega, by omega, _, _, hu, hv, ?_⟩
      rcases (by omega : xs.getD pa 0 = 0 ∨ xs.getD pa 0 = 1) with e1 | e1 <;> rcases (by omega : xs.getD pb 0 = 0 ∨ xs.getD pb 0 = 1) with e2 | e2
      · exact .inr (.inr (.inl ⟨e1, e2⟩))
      · refine .inr (.inl ⟨e1, e2, ?_⟩)
        have := h.2 (ha.2.2 e1) (hb.1.2 e2)
        omega
      · exact .inl ⟨e1, e2, h.1 (ha.1.2 e1) (hb.2.2 e2)⟩
      · exact .inr (.inr (.inr ⟨e1, e2⟩))
    have hfl := Lib.hid hP.out.1.2.1
    obtain ⟨m, hm⟩ : ∃ m, m = L.length := ⟨_, rfl⟩
    obtain ⟨mf, hmf⟩ : ∃ m, m = f'.length := ⟨_, rfl⟩
    obtain ⟨mx, hmx⟩ : ∃ m, m = xs.length := ⟨_, rfl⟩
    have hLc := Lib.hid ((hL.out.below hb).more hb.size)
    have hFc := Lib.hid hO3.iv
    have hXc := Lib.hid hO2.iv
    have HO3 := Lib.hid hO3
    have hmm : mf = m := by rw [hm, hmf]; exact hfl.out
    rw [← hm] at hL1 ⊢
    rw [← hmf] at hf1 ⊢
    rw [← hmx] at hx1 hfull ⊢
    subst hmm
    have Hm := Lib.hid hm
    have Hmf := Lib.hid hmf
    have Hmx := Lib.hid hmx
    clear hR hm hmf hmx hO2 hO3
    go_wp2_with fail
    go_loopw [13, 14, 15] (fun i _ _ wr => ∃ k d : Nat, k ≤ mf ∧ i = .int .i64 k ∧ wr = w5.drewN d) (fun i _ _ _ => mf - (intOf i).toNat)
    case atStart => exact ⟨0, 0, by omega, rfl, rfl⟩
    case round =>
      obtain ⟨k, d, hk, rfl, rfl⟩ := hrel
      by_cases hkm : k < mf
      · obtain ⟨b, off, rfl, hbB, hc⟩ := hLc.out (by rw [← Hm.out]; omega)
        obtain ⟨l, hl⟩ : ∃ l, L[k]? = some l := ⟨L[k]'(by rw [← Hm.out]; exact hkm), List.getElem?_eq_getElem _⟩
        obtain ⟨x, hx⟩ : ∃ x, f'[k]? = some x := ⟨f'[k]'(by rw [← Hmf.out]; exact hkm), List.getElem?_eq_getElem _⟩
        obtain ⟨c1, c2', c3'⟩ := hc k l hl
        obtain ⟨pa, pb, hpa, hpb, hpax, hpbx, hc1, hc9, u, v, hu, hv, hcase⟩ := hfull.out k l x hl hx
        have ew : IntKind.i64.wrap (0 - l.c) = 0 - l.c := IntWalk.i64_in _ (by omega)
        obtain ⟨bf, of, rfl, _, _, hcf⟩ := hFc.out (by rw [← Hmf.out]; omega)
        obtain ⟨bx, ox, rfl, _, _, hcx⟩ := hXc.out (by rw [← Hmx.out]; omega)
        have g1 := hcf k x hx
        have g2 := hcx pa u hu
        have g3 := hcx pb v hv
        rw [hpa] at c1
        rw [hpb] at c2'
        clear hc hcf hcx hu hv hl hx hpa hpb
        rcases hcase with ⟨rfl, rfl, rfl⟩ | ⟨rfl, rfl, rfl⟩ | ⟨rfl, rfl⟩ | ⟨rfl, rfl⟩
        · go_wp2_with fail
          go_quiet (fail)
          go_wp2_with fail
          go_roundw
          case rel => exact ⟨k + 1, _, by omega, by go_num, rfl⟩
          case measure => simp [intOf]; omega
        · go_wp2_with fail
          go_quiet (fail)
          go_wp2_with fail
          go_roundw
          case rel => exact ⟨k + 1, _, by omega, by go_num, rfl⟩
          case measure => simp [intOf]; omega
        · go_wp2_with fail
          go_quiet (fail)
          go_wp2_with fail
          go_roundw
          case rel => exact ⟨k + 1, _, by omega, by go_num, rfl⟩
          case measure => simp [intOf]; omega
        · go_wp2_with fail
          go_quiet (fail)
          go_wp2_with fail
          go_roundw
          case rel => exact ⟨k + 1, _, by omega, by go_num, rfl⟩
          case measure => simp [intOf]; omega
      · obtain rfl : k = mf := by omega
        replace hb := below_drewN hb d
        replace hLc : Hid (Lns (w5.drewN d) (w5.drewN d).heap.size A L) := hLc.out
        replace hFc : Hid (Own (w5.drewN d) _ _ _) := HO3.out
        have HV := Lib.hid (iLoadValid n A c L p q A3 c3 f' (by rw [← Hm.out]; omega) (by rw [← Hmf.out]; omega) (w5.drewN d) hLc.out (hFc.out.iv.more (Nat.zero_le _) (Nat.le_refl _)))
        rw [← Hm.out, ← Hmf.out] at HV
        go_wp2_with fail
        refine (HV.out).mono ?_
        rintro e w6 ⟨r, rfl, hr, hb6⟩
        replace hb := hb.trans (hb6.mono hb.size)
        clear hb6
        obtain rfl : r = true := hr.2 hP.out.1
        clear hr
        go_wp2_with fail
        go_ret
        exact ⟨rfl, hbw.trans (hb.mono hbw.size)⟩
end Go.Proofs.Ytkcfclkpbmeaiaa
