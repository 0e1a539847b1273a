/- The laws FnDay, FnForecastOpen and FnForecast, walked. -/
import Derived.Test.YtdoikhcpbbnjfaaFcE
namespace Go.Proofs.Ytdoikhcpbbnjfaa
set_option linter.unusedVariables false
set_option linter.unusedSimpArgs false
open Go.RowKit
theorem walk_Day (a0 : Option Addr) (len0 cap0 : Nat) (z0 : List Int) (w : World) (w0 : ArgB w a0 len0 cap0 z0) :
    Calls Try.prog 7 #[.slice a0 len0 cap0] w fun e w' => e = .returned (.bool true) ∧ Below w.heap.size w w' := by
  obtain ⟨hl, hm, hby⟩ := w0.byt
  have hm' := hm
  unfold maxLen at hm'
  by_cases h : 1048576 < len0
  · go_enter Try.func7, Try.ntmps7
    go_wp2_with fail
    go_ret
    exact ⟨rfl, Below.refl _ _⟩
  · go_enter Try.func7, Try.ntmps7
    go_wp2_with fail
    refine (drawDay a0 len0 cap0 hl hm _ hby).mono ?_
    rintro e w1 ⟨s, d, hs, hd0, hd1, rfl, hb1⟩
    have hsm : s.size ≤ maxLen := by unfold maxLen; omega
    go_wp2_with fail
    refine (implDay s hsm d _).mono ?_
    rintro e w2 ⟨rfl, hb2⟩
    replace hb2 := hb1.trans (hb2.mono hb1.size)
    clear hb1
    go_wp2_with fail
    refine (specDay s hsm d _).mono ?_
    rintro e w3 ⟨rfl, rfl⟩
    by_cases hneg : fcDay s.data.toList d < 0
    · go_wp2_with fail
      go_ret
      exact ⟨rfl, hb2⟩
    · obtain ⟨hv, k, rfl, hk, hout⟩ := fcDay_nonneg hneg
      have hlen : s.data.toList.length = s.size := by simp
      obtain ⟨ha, hxl, hxm⟩ := fcDayN_spec s.data.toList k hk
      have hopen : fcOpen s.data.toList (fcDayN s.data.toList k) = (k : Int) := by rw [fcOpen_on hv hxl, ha]
      have hx0 : k = 0 → fcDayN s.data.toList k = 0 := fun h => by rw [h, fcDayN_zero]
      have hxs : 0 < k → ∃ d, fcDayN s.data.toList k = d + 1 ∧ s.data.toList[d]? = some 111 := fcDay_open _ k hk
      have hbig : k + 1 ≤ fcAhead s.data.toList s.data.toList.length → fcDay s.data.toList ((k : Int) + 1) = (fcDayN s.data.toList (k + 1) : Int) ∧ fcDayN s.data.toList k < fcDayN s.data.toList (k + 1) := fun h =>
        ⟨by rw [show (k : Int) + 1 = ((k + 1 : Nat) : Int) by omega, fcDay_on hv h], fcDayN_lt _ _ _ (by omega) h⟩
      have hsml : ¬ k + 1 ≤ fcAhead s.data.toList s.data.toList.length → fcDay s.data.toList ((k : Int) + 1) = -1 ∧ fcOpen s.data.toList (s.size : Int) = (k : Int) := fun h =>
        ⟨fcDay_off (.inr (by omega)), by rw [← hlen, fcOpen_on hv (Nat.le_refl _)]; omega⟩
      rw [hout]
      obtain ⟨x, hx⟩ : ∃ x, x = fcDayN s.data.toList k := ⟨_, rfl⟩
      rw [← hx] at ha hxl hopen hx0 hxs hbig ⊢
      have hv30 := fcValid_len hv
      have hk30 := fcAhead_le s.data.toList x
      obtain ⟨y, hy⟩ : ∃ y, y = fcDayN s.data.toList (k + 1) := ⟨_, rfl⟩
      rw [← hy] at hbig
      have HO := Lib.hid hopen
      have HX := Lib.hid (And.intro hx0 (And.intro hxs (And.intro hbig hsml)))
      have hxs30 : x ≤ s.size := by omega
      have hk30' : k ≤ 30 := by omega
      clear hopen hx0 hxs hbig hsml hlen ha hout hx hy hneg hxm hxl hk hk30
      have hv' := Lib.hid hv
      clear hv
      by_cases hk1 : k + 1 ≤ fcAhead s.data.toList s.data.toList.length
      · obtain ⟨hn, hlt⟩ := HX.out.2.2.1 hk1
        replace hn := Lib.hid hn
        clear hk1
        go_wp2_with fail
        refine (implDay s hsm _ _).mono ?_
        rintro e w4 ⟨rfl, hb4⟩
        replace hb4 := hb2.trans (hb4.mono hb2.size)
        rw [hn.out]
        go_wp2_with fail
        refine (implOpen s hsm _ _).mono ?_
        rintro e w5 ⟨rfl, hb5⟩
        replace hb5 := hb4.trans (hb5.mono hb4.size)
        clear hb2 hb4
        rw [HO.out]
        by_cases hk0 : k = 0
        · obtain rfl := HX.out.1 hk0
          subst hk0
          have hy1 : ((y : Int) == -1) = false := bF (by omega)
          go_wp2_with fail
          go_ret
          exact ⟨rfl, hb5⟩
        · obtain ⟨d, hd, hc⟩ := HX.out.2.1 (by omega)
          have hk0' : ((k : Int) == 0) = false := bF (by omega)
          have hy1 : ((y : Int) == -1) = false := bF (by omega)
          have hkp : 0 < k := by omega
          have hdl : d < s.size := by omega
          have hcb : ((s[d].toNat : Int) == 111) = true := by
            rw [at_list s d hdl] at hc; injection hc with hc; rw [hc]; rfl
          subst hd
          clear hk0 hc
          go_wp2_with fail
          go_ret
          exact ⟨ret_bool (decide_eq_true (by omega)), hb5⟩
      · obtain ⟨hn, hop⟩ := HX.out.2.2.2 hk1
        replace hn := Lib.hid hn
        replace hop := Lib.hid hop
        clear hk1
        go_wp2_with fail
        refine (implDay s hsm _ _).mono ?_
        rintro e w4 ⟨rfl, hb4⟩
        replace hb4 := hb2.trans (hb4.mono hb2.size)
        rw [hn.out]
        go_wp2_with fail
        refine (implOpen s hsm _ _).mono ?_
        rintro e w5 ⟨rfl, hb5⟩
        replace hb5 := hb4.trans (hb5.mono hb4.size)
        clear hb2 hb4
        rw [HO.out]
        by_cases hk0 : k = 0
        · obtain rfl := HX.out.1 hk0
          subst hk0
          go_wp2_with fail
          refine (implOpen s hsm _ _).mono ?_
          rintro e w6 ⟨rfl, hb6⟩
          replace hb6 := hb5.trans (hb6.mono hb5.size)
          rw [hop.out]
          go_wp2_with fail
          go_ret
          exact ⟨rfl, hb6⟩
        · obtain ⟨d, hd, hc⟩ := HX.out.2.1 (by omega)
          have hk0' : ((k : Int) == 0) = false := bF (by omega)
          have hkp : 0 < k := by omega
          have hdl : d < s.size := by omega
          have hcb : ((s[d].toNat : Int) == 111) = true := by
            rw [at_list s d hdl] at hc; injection hc with hc; rw [hc]; rfl
          subst hd
          clear hk0 hc
          go_wp2_with fail
          refine (implOpen s hsm _ _).mono ?_
          rintro e w6 ⟨rfl, hb6⟩
          replace hb6 := hb5.trans (hb6.mono hb5.size)
          rw [hop.out]
          go_wp2_with fail
          go_ret
          exact ⟨rfl, hb6⟩

theorem countOf_one (c : UInt8) (s : ByteArray) (hs : s = ⟨#[c]⟩) (w : World) :
    Calls Try.prog 36 #[.string s, .int .u8 111] w fun e w' => e = .returned (.int .i64 (if c == 111 then 1 else 0)) ∧ w = w' := by
  have hsz : s.size = 1 := by rw [hs]; rfl
  have hget : ∀ h : 0 < s.size, s[0]'h = c := fun h => by subst hs; rfl
  obtain ⟨R, hR⟩ : ∃ R : Int, R = (if c == 111 then 1 else 0) := ⟨_, rfl⟩
  rw [← hR]
  have hRb : R = 0 ∨ R = 1 := by rw [hR]; split <;> simp
  have HR := Lib.hid hR
  have HG := Lib.hid hget
  have HZ := Lib.hid hsz
  have h1 : s.size ≤ 1 := by omega
  have h2 : 1 ≤ s.size := by omega
  clear hR hget hsz hs
  go_enter Try.func36, Try.ntmps36
  go_wp2_with fail
  go_loop [5, 6] (fun n i => ∃ k : Nat, k ≤ s.size ∧ i = .int .i64 k ∧ ((k = 0 ∧ n = .int .i64 0) ∨ (k = 1 ∧ n = .int .i64 R))) (fun _ i => s.size - (intOf i).toNat)
  case atStart => exact ⟨0, by omega, rfl, .inl ⟨rfl, rfl⟩⟩
  case round =>
    obtain ⟨k, hk, rfl, hn⟩ := hrel
    by_cases hk0 : k < s.size
    · have hn0 : u5 = .int .i64 0 := by
        rcases hn with ⟨_, h⟩ | ⟨h, _⟩
        · exact h
        · omega
      subst hn0
      have hke : k = 0 := by omega
      clear hn
      by_cases hc : c == 111
      · have hb : ((s[k].toNat : Int) == 111) = true := by
          subst hke; rw [HG.out hk0]; have := beq_iff_eq.1 hc; rw [this]; rfl
        have Hke := Lib.hid hke
        clear hke hc
        go_wp2_with fail
        go_round
        case rel => exact ⟨k + 1, by omega, by go_num, .inr ⟨by rw [Hke.out], by
          have hcc : (c == 111) = true := by
            have h3 := hb
            have hke := Hke.out
            subst hke
            rw [HG.out hk0] at h3
            exact (byte_eq c 111 (by omega)).trans h3
          rw [HR.out, hcc]; rfl⟩⟩
        case measure => simp [intOf]; omega
      · have hb : ((s[k].toNat : Int) == 111) = false := by
          subst hke; rw [HG.out hk0]; exact (byte_eq c 111 (by omega)).symm.trans (by simpa using hc)
        have Hke := Lib.hid hke
        have Hc := Lib.hid hc
        clear hke hc
        go_wp2_with fail
        go_round
        case rel => exact ⟨k + 1, by omega, by go_num, .inr ⟨by rw [Hke.out], by rw [HR.out, if_neg Hc.out]⟩⟩
        case measure => simp [intOf]; omega
    · have hn1 : u5 = .int .i64 R := by
        rcases hn with ⟨h, _⟩ | ⟨_, h⟩
        · omega
        · exact h
      subst hn1
      go_wp2_with fail
      go_ret
      exact ⟨rfl, rfl⟩
end Go.Proofs.Ytdoikhcpbbnjfaa
