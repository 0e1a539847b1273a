/- ForecastWindow of the reference and of the program, walked. -/
import Derived.Test.YtmccicgpgcidoaaDoorLong
namespace Go.Proofs.YtmccicgpgcidoaaDoor
set_option linter.unusedVariables false
set_option linter.unusedSimpArgs false
open Go.RowKit
theorem winV_off {l : List UInt8} {k : Int} (h : ¬ (fcValid l = true ∧ 1 ≤ k ∧ k ≤ 30)) : winV l k = -1 := by rw [winV, if_neg h]
theorem winV_some {l : List UInt8} {k e : Nat} (hv : fcValid l = true) (h1 : 1 ≤ k) (h2 : k ≤ 30) (h : winTo l k l.length = some e) : winV l k = e := by
  rw [winV, if_pos ⟨hv, by omega, by omega⟩, Int.toNat_natCast, h]
theorem winV_none {l : List UInt8} {k : Nat} (h : winTo l k l.length = none) : winV l k = -1 := by
  rw [winV]
  split
  · rw [Int.toNat_natCast, h]
  · rfl
theorem win_yes {l : List UInt8} {k d n : Nat} (h : winTo l k d = none) (hr : k ≤ runAt l d) (hn : d < n) : winTo l k n = some d := by
  obtain ⟨j, rfl⟩ : ∃ j, n = d + 1 + j := ⟨n - (d + 1), by omega⟩
  exact winTo_stay (by rw [winTo, h]; simp only; rw [if_pos hr]) j
theorem win_no {l : List UInt8} {k d : Nat} (h : winTo l k d = none) (hr : ¬ k ≤ runAt l d) : winTo l k (d + 1) = none := by
  rw [winTo, h]; simp only; rw [if_neg hr]
set_option maxRecDepth 100000 in
theorem specWindow (s : ByteArray) (hs : s.size ≤ maxLen) (days : Int) (w : World) :
    Calls Tryd.prog 9 #[.string s, .int .i64 days] w fun e w' => e = .returned (.int .i64 (winV s.data.toList days)) ∧ w = w' := by
  have hlen : s.data.toList.length = s.size := by simp
  cases hv : fcValid s.data.toList with
  | false =>
    have H := Lib.hid (specValid_is s hs false hv)
    rw [winV_off (fun h => by rw [hv] at h; cases h.1)]
    clear hv
    go_enter Tryd.func9, Tryd.ntmps9
    go_wp2_with (first | (go_at_call 14; refine (H.out _).mono ?_; rintro e w' ⟨rfl, rfl⟩))
    go_ret
    exact ⟨rfl, rfl⟩
  | true =>
    have H := Lib.hid (specValid_is s hs true hv)
    by_cases hd : 1 ≤ days ∧ days ≤ 30
    · obtain ⟨k, rfl⟩ := Int.eq_ofNat_of_zero_le (by omega : 0 ≤ days)
      have h30 := fcValid_len hv
      rw [hlen] at h30
      have hk1 : 1 ≤ k := by omega
      have hk30 : k ≤ 30 := by omega
      have HO := Lib.hid (fun d h0 h1 w => specOpen_on s hs hv d h0 h1 w)
      have hYes : Hid (∀ d, winTo s.data.toList k d = none → k ≤ runAt s.data.toList d → d < s.size → winV s.data.toList k = d) := fun d h1 h2 h3 => winV_some hv hk1 hk30 (win_yes h1 h2 (by omega))
      have hNo : Hid (∀ d, winTo s.data.toList k d = none → s.size < d + k → d ≤ s.size → winV s.data.toList k = -1) := fun d h1 h2 h3 => by
        have := winTo_past h1 (by omega) (by omega) (s.size - d)
        rw [show d + (s.size - d) = s.data.toList.length by omega] at this
        exact winV_none this
      have hOp : Hid (∀ d, d + k ≤ s.size → (k ≤ runAt s.data.toList d ↔ fcAhead s.data.toList (d + k) - fcAhead s.data.toList d = k)) := fun d h => by
        have := runAt_open (fcValid_ok hv) (d := d) (k := k) (by omega)
        rw [this, hlen]
        exact ⟨fun h => h.2, fun h2 => ⟨h, h2⟩⟩
      have hMo : Hid (∀ d e, d ≤ e → fcAhead s.data.toList d ≤ fcAhead s.data.toList e ∧ fcAhead s.data.toList e ≤ e) := fun d e h => ⟨fcAhead_mono _ _ _ h, fcAhead_le _ _⟩
      clear hv hlen hd
      unfold maxLen at hs
      go_enter Tryd.func9, Tryd.ntmps9
      go_wp2_with (first | (go_at_call 14; refine (H.out _).mono ?_; rintro e w' ⟨rfl, rfl⟩) | (go_at_call 17; refine (l6In_yes _ _ _ (by omega) _).mono ?_; rintro e w' ⟨rfl, rfl⟩))
      go_loop [5] (fun i => ∃ d : Nat, d ≤ s.size ∧ i = .int .i64 d ∧ Hid (winTo s.data.toList k d = none)) (fun i => s.size - (intOf i).toNat)
      case atStart => exact ⟨0, by omega, rfl, rfl⟩
      case round =>
        obtain ⟨d, hd, rfl, hw⟩ := hrel
        by_cases hlt : (d : Int) + k ≤ s.size
        · have hH1 := HO.out ((d : Int) + k) (by omega) hlt
          rw [show ((d : Int) + k).toNat = d + k by omega] at hH1
          have hH2 := HO.out (d : Int) (by omega) (by omega)
          rw [Int.toNat_natCast] at hH2
          have H1 := Lib.hid hH1
          have H2 := Lib.hid hH2
          have hop := hOp.out d (by omega)
          obtain ⟨m1, m2⟩ := hMo.out d (d + k) (by omega)
          obtain ⟨x, hx⟩ : ∃ x, x = fcAhead s.data.toList (d + k) := ⟨_, rfl⟩
          obtain ⟨y, hy⟩ : ∃ y, y = fcAhead s.data.toList d := ⟨_, rfl⟩
          rw [← hx] at H1 hop m1 m2
          rw [← hy] at H2 hop m1
          clear hH1 hH2 hx hy
          by_cases hr : k ≤ runAt s.data.toList d
          · have he := hop.1 hr
            have t0 := bT (show (x : Int) - y = k by omega)
            have HY := Lib.hid (hYes.out d hw.out hr (by omega))
            clear hop hr he
            go_wp2_with fail
            refine (H1.out _).mono ?_
            rintro e w1 ⟨rfl, rfl⟩
            go_wp2_with fail
            refine (H2.out _).mono ?_
            rintro e w2 ⟨rfl, rfl⟩
            go_wp2_with fail
            go_ret
            exact ⟨ret_int HY.out.symm, rfl⟩
          · have he : ¬ x - y = k := fun h => hr (hop.2 h)
            have t0 := bF (show ¬ (x : Int) - y = k by omega)
            have HN : Hid (winTo s.data.toList k (d + 1) = none) := win_no hw.out hr
            clear hop hr he
            go_wp2_with fail
            refine (H1.out _).mono ?_
            rintro e w1 ⟨rfl, rfl⟩
            go_wp2_with fail
            refine (H2.out _).mono ?_
            rintro e w2 ⟨rfl, rfl⟩
            go_wp2_with fail
            go_round
            case rel => exact ⟨d + 1, by omega, by go_num, HN⟩
            case measure => simp [intOf]; omega
        · have HN := Lib.hid (hNo.out d hw.out (by omega) hd)
          go_wp2_with fail
          go_ret
          exact ⟨ret_int HN.out.symm, rfl⟩
    · rw [winV_off (fun h => hd h.2)]
      clear hv
      go_enter Tryd.func9, Tryd.ntmps9
      go_wp2_with (first | (go_at_call 14; refine (H.out _).mono ?_; rintro e w' ⟨rfl, rfl⟩) | (go_at_call 17; refine (l6In_no _ _ _ hd _).mono ?_; rintro e w' ⟨rfl, rfl⟩))
      go_ret
      exact ⟨rfl, rfl⟩
set_option maxRecDepth 100000 in
theorem implWindow (s : ByteArray) (hs : s.size ≤ maxLen) (days : Int) (w : World) (hT : Tab w) :
    Calls Tryd.prog 10 #[.string s, .int .i64 days] w fun e w' => e = .returned (.int .i64 (winV s.data.toList days)) ∧ Below w.heap.size w w' := by
  have hlen : s.data.toList.length = s.size := by simp
  cases hv : fcValid s.data.toList with
  | false =>
    rw [winV_off (fun h => by rw [hv] at h; cases h.1)]
    have H := Lib.hid (forecastOf_no s hs hv)
    clear hv
    go_enter Tryd.func10, Tryd.ntmps10
    go_wp2_with (first | (go_at_call 15; refine (H.out _).mono ?_; rintro e w1 ⟨m, rfl, hb⟩))
    go_ret
    exact ⟨rfl, hb.alloc hb.size _⟩
  | true =>
    obtain ⟨h1, h2⟩ := (fcValid_iff s).1 hv
    have H := Lib.hid (forecastOf_yes s h2 h1)
    obtain ⟨r, hr⟩ : ∃ r, inB days 1 30 = r := ⟨_, rfl⟩
    have Hr := Lib.hid hr
    cases r with
    | false =>
      rw [winV_off (fun h => by rw [inB_iff.2 h.2] at hr; cases hr)]
      clear hv h1 hr
      go_enter Tryd.func10, Tryd.ntmps10
      go_wp2_with fail
      refine (H.out _).mono ?_
      rintro e w1 ⟨rfl, hb⟩
      have hb1 := hb.alloc hb.size (Obj.cells #[.int .u32 (maskL s.data.toList), .int .i64 s.size] 33)
      clear hb
      go_wp2_with fail
      refine (within_b _ _ _ _ Hr.out _).mono ?_
      rintro e w2 ⟨rfl, rfl⟩
      go_wp2_with fail
      go_ret
      exact ⟨rfl, hb1⟩
    | true =>
      obtain ⟨hd1, hd2⟩ := inB_iff.1 hr
      obtain ⟨k, rfl⟩ := Int.eq_ofNat_of_zero_le (by omega : 0 ≤ days)
      have hk1 : 1 ≤ k := by omega
      have hk30 : k ≤ 30 := by omega
      have HR := Lib.hid (fun d hd w hT => run_any s.data.toList (by omega) s.size d hd w hT)
      have hYes : Hid (∀ d, winTo s.data.toList k d = none → k ≤ runAt s.data.toList d → d < s.size → winV s.data.toList k = d) := fun d h1 h2 h3 => winV_some hv hk1 hk30 (win_yes h1 h2 (by omega))
      have hNo : Hid (winTo s.data.toList k s.size = none → winV s.data.toList k = -1) := fun h => winV_none (by rw [hlen]; exact h)
      obtain ⟨m, hm⟩ : ∃ m, m = maskL s.data.toList := ⟨_, rfl⟩
      rw [← hm] at H HR
      have HTab := Lib.hid hT
      clear hv h1 hlen hm hT hs hr hd1 hd2
      go_enter Tryd.func10, Tryd.ntmps10
      go_wp2_with fail
      refine (H.out _).mono ?_
      rintro e w1 ⟨rfl, hb⟩
      have hrow := Row.newS w1 33 #[.int .u32 m, .int .i64 s.size] (g := w1.heap.size) rfl rfl
      have hb1 : Below w.heap.size w (w1.alloc (Obj.cells #[.int .u32 m, .int .i64 s.size] 33)) := hb.alloc hb.size _
      have hs1 := hb.size
      clear hb
      go_wp2_with fail
      refine (within_b _ _ _ _ Hr.out _).mono ?_
      rintro e w2 ⟨rfl, rfl⟩
      go_wp2_with fail
      go_loopw [22] (fun i wr => ∃ d : Nat, d ≤ s.size ∧ i = .int .i64 d ∧ Hid (winTo s.data.toList k d = none) ∧ Row wr w1.heap.size 33 [.int .u32 m, .int .i64 s.size] ∧ Below w.heap.size w wr) (fun i _ => s.size - (intOf i).toNat)
      case atStart => exact ⟨0, by omega, rfl, rfl, hrow, hb1⟩
      case round =>
        clear hrow hb1
        obtain ⟨d, hd, rfl, hw, hr, hbel⟩ := hrel
        by_cases hlt : d < s.size
        · have c0 := hr.cellI (i := 0) rfl
          have c1 := hr.cellI (i := 1) rfl
          have hT2 := Lib.hid (HTab.out.below hbel (Nat.lt_of_lt_of_le HTab.out.1 (Nat.le_refl _)))
          go_wp2_with fail
          refine (HR.out d (by omega) _ hT2.out).mono ?_
          rintro e w3 ⟨rfl, hb3⟩
          have hr3 := hr.below hb3 hr.lt
          replace hb3 := hbel.trans (hb3.mono hbel.size)
          by_cases hk : k ≤ runAt s.data.toList d
          · have HY := Lib.hid (hYes.out d hw.out hk hlt)
            obtain ⟨y, hy⟩ : ∃ y, y = runAt s.data.toList d := ⟨_, rfl⟩
            rw [← hy] at hk ⊢
            clear hy c0 c1 hr hbel
            go_wp2_with fail
            go_ret
            exact ⟨ret_int HY.out.symm, hb3⟩
          · have HN : Hid (winTo s.data.toList k (d + 1) = none) := win_no hw.out hk
            obtain ⟨y, hy⟩ : ∃ y, y = runAt s.data.toList d := ⟨_, rfl⟩
            rw [← hy] at hk ⊢
            clear hy c0 c1 hr hbel
            go_wp2_with fail
            go_roundw
            case rel => exact ⟨d + 1, by omega, by go_num, HN, hr3, hb3⟩
            case measure => simp [intOf]; omega
        · obtain rfl : d = s.size := by omega
          have HN := Lib.hid (hNo.out hw.out)
          go_wp2_with fail
          go_ret
          exact ⟨ret_int HN.out.symm, hbel⟩
end Go.Proofs.YtmccicgpgcidoaaDoor
