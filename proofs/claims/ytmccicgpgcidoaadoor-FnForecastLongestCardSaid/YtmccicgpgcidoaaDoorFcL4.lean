/- The laws of longest runs and of windows, walked. -/
import Derived.Test.YtmccicgpgcidoaaDoorWin
import Derived.Test.YtmccicgpgcidoaaDoorFcE
namespace Go.Proofs.YtmccicgpgcidoaaDoor
set_option linter.unusedVariables false
set_option linter.unusedSimpArgs false
open Go.RowKit
theorem drawLongest (A : Option Addr) (n c : Nat) (hnc : n ≤ c) (hc : c ≤ maxLen) (w : World) (h : Byt w w.heap.size A n) :
    Calls Tryd.prog 12 #[.slice A n c] w (TextPost 1000 w) := by
  go_enter Tryd.func12, Tryd.ntmps12
  go_wp2_with fail
  refine (open_any A n c hnc hc _ h).mono ?_
  rintro e w1 ⟨g, rfl, hr, hb⟩
  go_wp2_with fail
  refine (l92Forecast_any _ _ _ _ (by omega) (by omega) _ hr (by omega)).mono ?_
  rintro e w2 ⟨s, hs, rfl, q, hq1, hq2, hr2, hg2⟩
  have hb2 := Went.below (p := 0) (most := 0) hb hb.size hr.ge hg2
  go_wp2_with fail
  go_ret
  exact ⟨s, by omega, rfl, hb2⟩
theorem drawWindow (A : Option Addr) (n c : Nat) (hnc : n ≤ c) (hc : c ≤ maxLen) (w : World) (h : Byt w w.heap.size A n) :
    Calls Tryd.prog 11 #[.slice A n c] w (ForecastPost 1000 0 1000 w) := by
  go_enter Tryd.func11, Tryd.ntmps11
  go_wp2_with fail
  refine (open_any A n c hnc hc _ h).mono ?_
  rintro e w1 ⟨g, rfl, hr, hb⟩
  go_wp2_with fail
  refine (l92Forecast_any _ _ _ _ (by omega) (by omega) _ hr (by omega)).mono ?_
  rintro e w2 ⟨s, hs, rfl, q, hq1, hq2, hr2, hg2⟩
  have hb2 := Went.below (p := 0) (most := 0) hb hb.size hr.ge hg2
  go_wp2_with fail
  refine (pick_any _ _ _ _ (by omega) (by omega) _ hr2 (by omega)).mono ?_
  rintro e w3 ⟨v, rfl, ⟨hv0, hv1, _⟩, hr3, hg3⟩
  have hb3 := Went.below (p := 0) (most := 0) hb2 hb2.size hr.ge hg3
  have hv2 := hv1 (by omega)
  clear hv1
  go_wp2_with fail
  go_ret2
  exact ⟨s, v, by omega, by omega, by omega, rfl, hb3⟩
theorem Tab.on {w w' : World} (h : Tab w) (hb : Below w.heap.size w w') : Tab w' := h.below hb h.1
theorem law_ExactForecastLongest (a0 : ByteArray) (w : World) (hT : Tab w) (w0 : a0.size ≤ maxLen) :
    Calls Tryd.prog 3 #[.string a0] w fun e w' => e = .returned (.bool true) ∧ Below w.heap.size w w' := by
  have HT := Lib.hid hT
  have hs := w0
  unfold maxLen at hs
  by_cases h : 1048576 < a0.size
  · go_enter Tryd.func3, Tryd.ntmps3
    go_wp2_with fail
    go_ret
    exact ⟨rfl, Below.refl _ _⟩
  · obtain ⟨v, hv⟩ : ∃ v, v = longV a0.data.toList := ⟨_, rfl⟩
    have H1 := Lib.hid (specLongest a0 w0)
    have H2 := Lib.hid (implLongest a0 w0)
    rw [← hv] at H1 H2
    clear hv hT
    go_enter Tryd.func3, Tryd.ntmps3
    go_wp2_with fail
    refine (H1.out _).mono ?_
    rintro e w1 ⟨rfl, rfl⟩
    go_wp2_with fail
    refine (H2.out _ HT.out).mono ?_
    rintro e w2 ⟨rfl, hb⟩
    go_wp2_with fail
    go_ret
    exact ⟨rfl, hb⟩
theorem law_ExactForecastWindow (a0 : ByteArray) (a1 : Int) (w : World) (hT : Tab w) (w0 : a0.size ≤ maxLen) (_w1 : (Lit.int .i64 a1).wf = true) :
    Calls Tryd.prog 4 #[.string a0, .int .i64 a1] w fun e w' => e = .returned (.bool true) ∧ Below w.heap.size w w' := by
  have HT := Lib.hid hT
  have hs := w0
  unfold maxLen at hs
  by_cases h : 1048576 < a0.size
  · go_enter Tryd.func4, Tryd.ntmps4
    go_wp2_with fail
    go_ret
    exact ⟨rfl, Below.refl _ _⟩
  · obtain ⟨v, hv⟩ : ∃ v, v = winV a0.data.toList a1 := ⟨_, rfl⟩
    have H1 := Lib.hid (specWindow a0 w0 a1)
    have H2 := Lib.hid (implWindow a0 w0 a1)
    rw [← hv] at H1 H2
    clear hv hT
    go_enter Tryd.func4, Tryd.ntmps4
    go_wp2_with fail
    refine (H1.out _).mono ?_
    rintro e w1 ⟨rfl, rfl⟩
    go_wp2_with fail
    refine (H2.out _ HT.out).mono ?_
    rintro e w2 ⟨rfl, hb⟩
    go_wp2_with fail
    go_ret
    exact ⟨rfl, hb⟩
/-- What the law of longest runs asks. -/
theorem long_law {l : List UInt8} {r : Int} (hr : r = longV l) (h : ¬ r < 0) : fcValid l = true ∧ 0 ≤ r ∧ r ≤ 30 ∧ (r = 0 ∨ 0 ≤ winV l r) ∧ (r = 30 ∨ winV l (r + 1) = -1) ∧ r ≤ fcOpen l l.length := by
  cases hv : fcValid l with
  | false => rw [longV_off hv] at hr; omega
  | true =>
    rw [longV_on hv] at hr
    obtain ⟨m, hm⟩ : ∃ m, m = mostRun l l.length := ⟨_, rfl⟩
    rw [← hm] at hr
    have h30 := fcValid_len hv
    have hle := mostRun_le l l.length
    have hok := fcValid_ok hv
    subst hr
    refine ⟨rfl, by omega, by omega, ?_, ?_, ?_⟩
    · by_cases h0 : m = 0
      · left; omega
      · right
        rcases mostRun_at l l.length with h1 | ⟨d, hd, h1⟩
        · omega
        · obtain ⟨e, he, _⟩ := winTo_has (l := l) (k := m) hd (by omega)
          rw [winV_some hv (by omega) (by omega) he]; omega
    · by_cases h3 : m = 30
      · left; omega
      · right
        rw [show (m : Int) + 1 = ((m + 1 : Nat) : Int) by omega]
        cases hw : winTo l (m + 1) l.length with
        | none => exact winV_none hw
        | some e =>
          obtain ⟨h1, h2, _⟩ := winTo_spec hw
          have := mostRun_has l l.length e h1
          omega
    · rw [fcOpen_on hv (Nat.le_refl _)]
      rcases mostRun_at l l.length with h1 | ⟨d, hd, h1⟩
      · omega
      · have h2 := (runAt_open hok (d := d) (k := m) (by omega)).1 (by omega)
        have h3 := fcAhead_mono l (d + m) l.length h2.1
        omega
theorem law_ForecastLongest (a0 : Option Addr) (len0 cap0 : Nat) (z0 : List Int) (w : World) (hT : Tab w) (w0 : ArgB w a0 len0 cap0 z0) :
    Calls Tryd.prog 6 #[.slice a0 len0 cap0] w fun e w' => e = .returned (.bool true) ∧ Below w.heap.size w w' := by
  obtain ⟨hl, hm, hby⟩ := w0.byt
  have HT := Lib.hid hT
  have hm' := hm
  unfold maxLen at hm'
  by_cases h : 1048576 < len0
  · go_enter Tryd.func6, Tryd.ntmps6
    go_wp2_with fail
    go_ret
    exact ⟨rfl, Below.refl _ _⟩
  · clear hT
    go_enter Tryd.func6, Tryd.ntmps6
    go_wp2_with fail
    refine (drawLongest a0 len0 cap0 hl hm _ hby).mono ?_
    rintro e w1 ⟨s, hs, rfl, hb⟩
    have hsm : s.size ≤ maxLen := by unfold maxLen; omega
    obtain ⟨r, hr⟩ : ∃ r, r = longV s.data.toList := ⟨_, rfl⟩
    have H1 := Lib.hid (implLongest s hsm)
    have H2 := Lib.hid (specLongest s hsm)
    rw [← hr] at H1 H2
    have HW := Lib.hid (implWindow s hsm)
    have HO := Lib.hid (implOpen s hsm)
    have Hr := Lib.hid hr
    clear hr
    go_wp2_with fail
    refine (H1.out _ (HT.out.on hb)).mono ?_
    rintro e w2 ⟨rfl, hb2⟩
    replace hb := hb.trans (hb2.mono hb.size)
    go_wp2_with fail
    refine (H2.out _).mono ?_
    rintro e w3 ⟨rfl, rfl⟩
    by_cases hneg : r < 0
    · go_wp2_with fail
      go_ret
      exact ⟨rfl, hb⟩
    · obtain ⟨_, hr0, hr30, hz, hn, ho⟩ := long_law Hr.out hneg
      rw [show s.data.toList.length = s.size by simp] at ho
      obtain ⟨x, hx⟩ : ∃ x, x = winV s.data.toList r := ⟨_, rfl⟩
      obtain ⟨y, hy⟩ : ∃ y, y = winV s.data.toList (r + 1) := ⟨_, rfl⟩
      obtain ⟨o, hoo⟩ : ∃ o, o = fcOpen s.data.toList (s.size : Int) := ⟨_, rfl⟩
      have HX := Lib.hid (HW.out r)
      have HY := Lib.hid (HW.out (r + 1))
      have HOo := Lib.hid (HO.out s.size)
      rw [← hx] at HX hz
      rw [← hy] at HY hn
      rw [← hoo] at HOo ho
      clear hx hy hoo hb2
      by_cases h0 : r = 0
      · subst h0
        have hy1 : y = -1 := by omega
        subst hy1
        have t3 := bF (show (0 : Int) ≠ 30 by omega)
        clear hz hn
        go_wp2_with fail
        refine (HY.out _ (HT.out.on hb)).mono ?_
        rintro e w4 ⟨rfl, hb4⟩
        replace hb := hb.trans (hb4.mono hb.size)
        go_wp2_with fail
        refine (HOo.out _).mono ?_
        rintro e w5 ⟨rfl, hb5⟩
        replace hb := hb.trans (hb5.mono hb.size)
        go_wp2_with fail
        go_ret
        exact ⟨rfl, hb⟩
      · have t0 := bF h0
        have hx0 : 0 ≤ x := by omega
        clear hz
        go_wp2_with fail
        refine (HX.out _ (HT.out.on hb)).mono ?_
        rintro e w4 ⟨rfl, hb4⟩
        replace hb := hb.trans (hb4.mono hb.size)
        by_cases h3 : r = 30
        · subst h3
          clear hn h0
          go_wp2_with fail
          refine (HOo.out _).mono ?_
          rintro e w5 ⟨rfl, hb5⟩
          replace hb := hb.trans (hb5.mono hb.size)
          go_wp2_with fail
          go_ret
          exact ⟨rfl, hb⟩
        · have t3 := bF h3
          have hy1 : y = -1 := by omega
          subst hy1
          clear hn h0
          go_wp2_with fail
          refine (HY.out _ (HT.out.on hb)).mono ?_
          rintro e w5 ⟨rfl, hb5⟩
          replace hb := hb.trans (hb5.mono hb.size)
          go_wp2_with fail
          refine (HOo.out _).mono ?_
          rintro e w6 ⟨rfl, hb6⟩
          replace hb := hb.trans (hb6.mono hb.size)
          go_wp2_with fail
          go_ret
          exact ⟨rfl, hb⟩
theorem run_step {l : List UInt8} {d j : Nat} : j + 1 ≤ runAt l d ↔ j ≤ runAt l d ∧ l[d + j]? = some 111 := by
  have key : ∀ (l : List UInt8) (j : Nat), j + 1 ≤ run0 l ↔ j ≤ run0 l ∧ l[j]? = some 111 := fun l => by
    induction l with
    | nil => intro j; simp [run0]
    | cons c l ih =>
      intro j
      rw [run0]
      cases hc : c == 111 with
      | false =>
        rw [if_neg (by simp)]
        constructor
        · intro h; omega
        · rintro ⟨h1, h2⟩
          obtain rfl : j = 0 := by omega
          rw [List.getElem?_cons_zero] at h2
          injection h2 with h2
          rw [h2] at hc
          exact absurd hc (by decide)
      | true =>
        rw [if_pos rfl]
        cases j with
        | zero =>
          rw [List.getElem?_cons_zero]
          have : c = 111 := beq_iff_eq.1 hc
          rw [this]; simp
        | succ j =>
          rw [List.getElem?_cons_succ]
          rw [Nat.add_le_add_iff_right, Nat.add_le_add_iff_right]
          exact ih j
  rw [runAt, key, List.getElem?_drop]
/-- What the law of windows asks. -/
theorem win_law {l : List UInt8} {k r : Int} (hr : r = winV l k) (h : ¬ r < 0) : ∃ kk e : Nat, k = kk ∧ r = e ∧ 1 ≤ kk ∧ kk ≤ 30 ∧ e + kk ≤ l.length ∧ l.length ≤ 30 ∧ (∀ d, d ≤ e → (kk ≤ runAt l d ↔ d = e)) ∧ (kk = 1 ∨ ∃ x : Int, x = winV l (k - 1) ∧ 0 ≤ x ∧ x ≤ r) := by
  by_cases hc : fcValid l = true ∧ 1 ≤ k ∧ k ≤ 30
  · obtain ⟨hv, h1, h2⟩ := hc
    obtain ⟨kk, rfl⟩ := Int.eq_ofNat_of_zero_le (by omega : 0 ≤ k)
    cases hw : winTo l kk l.length with
    | none => rw [winV_none hw] at hr; omega
    | some e =>
      rw [winV_some hv (by omega) (by omega) hw] at hr
      obtain ⟨a1, a2, a3⟩ := winTo_spec hw
      have a4 := runAt_le l e
      refine ⟨kk, e, rfl, hr, by omega, by omega, by omega, fcValid_len hv, fun d hd => ⟨fun hk => ?_, fun hd => by rw [hd]; exact a2⟩, ?_⟩
      · rcases Nat.lt_or_ge d e with h3 | h3
        · exact absurd hk (a3 d h3)
        · omega
      · by_cases h3 : kk = 1
        · exact .inl h3
        · right
          obtain ⟨e', he, hle⟩ := winTo_has (l := l) (k := kk - 1) a1 (by omega)
          refine ⟨_, rfl, ?_⟩
          rw [show (kk : Int) - 1 = ((kk - 1 : Nat) : Int) by omega, winV_some hv (by omega) (by omega) he, hr]
          omega
  · rw [winV_off hc] at hr; omega
set_option maxRecDepth 100000 in
theorem law_Window (a0 : Option Addr) (len0 cap0 : Nat) (z0 : List Int) (w : World) (hT : Tab w) (w0 : ArgB w a0 len0 cap0 z0) :
    Calls Tryd.prog 5 #[.slice a0 len0 cap0] w fun e w' => e = .returned (.bool true) ∧ Below w.heap.size w w' := by
  obtain ⟨hl, hm, hby⟩ := w0.byt
  have HT := Lib.hid hT
  have hm' := hm
  unfold maxLen at hm'
  by_cases h : 1048576 < len0
  · go_enter Tryd.func5, Tryd.ntmps5
    go_wp2_with fail
    go_ret
    exact ⟨rfl, Below.refl _ _⟩
  · clear hT
    go_enter Tryd.func5, Tryd.ntmps5
    go_wp2_with fail
    refine (drawWindow a0 len0 cap0 hl hm _ hby).mono ?_
    rintro e w1 ⟨s, days, hs, hd0, hd1, rfl, hb⟩
    have hsm : s.size ≤ maxLen := by unfold maxLen; omega
    have hlen : s.data.toList.length = s.size := by simp
    obtain ⟨r, hr⟩ : ∃ r, r = winV s.data.toList days := ⟨_, rfl⟩
    have H1 := Lib.hid (implWindow s hsm days)
    have H2 := Lib.hid (specWindow s hsm days)
    rw [← hr] at H1 H2
    have HW := Lib.hid (implWindow s hsm)
    have Hr := Lib.hid hr
    clear hr
    go_wp2_with fail
    refine (H1.out _ (HT.out.on hb)).mono ?_
    rintro e w2 ⟨rfl, hb2⟩
    replace hb := hb.trans (hb2.mono hb.size)
    go_wp2_with fail
    refine (H2.out _).mono ?_
    rintro e w3 ⟨rfl, rfl⟩
    clear hb2
    by_cases hneg : r < 0
    · go_wp2_with fail
      go_ret
      exact ⟨rfl, hb⟩
    · obtain ⟨k, e, rfl, rfl, hk1, hk30, hek, hl30, hiff, hless⟩ := win_law Hr.out hneg
      rw [hlen] at hek hl30
      have Hiff := Lib.hid hiff
      have Hless := Lib.hid hless
      have Hsz : Hid (∀ k (h : k < s.size), s.data.toList[k]? = some s[k]) := fun k h => at_list s k h
      clear hiff hless hlen Hr hneg H1 H2
      go_wp2_with fail
      go_loopw [7] (fun i wr => ∃ d : Nat, d ≤ e + 1 ∧ i = .int .i64 d ∧ wr = w2) (fun i _ => e + 1 - (intOf i).toNat)
      case atStart => exact ⟨0, by omega, rfl, rfl⟩
      case round =>
        obtain ⟨d, hd, rfl, rfl⟩ := hrel
        by_cases hde : d ≤ e
        · go_wp2_with fail
          go_loopw [8, 9] (fun o i wz => ∃ (j t : Nat) (b : Bool), j ≤ k ∧ i = .int .i64 t ∧ Hid (t = d + j) ∧ o = .bool b ∧ Hid (b = decide (j ≤ runAt s.data.toList d)) ∧ wz = wr) (fun _ i _ => d + k - (intOf i).toNat)
          case atStart => exact ⟨0, d, true, by omega, rfl, rfl, rfl, by show _ = _; simp, rfl⟩
          case round =>
            obtain ⟨j, t, b, hj, rfl, ht, rfl, hb0, rfl⟩ := hrel
            have htj := ht.out
            by_cases hjk : j < k
            · have hts : t < s.size := by omega
              have hget := Hsz.out t hts
              have hstep := run_step (l := s.data.toList) (d := d) (j := j)
              rw [← htj, hget] at hstep
              have htk : t < d + k := by omega
              have ht1 : Hid (t + 1 = d + (j + 1)) := by show _ = _; omega
              clear htj
              cases b with
              | false =>
                have hn : Hid (false = decide (j + 1 ≤ runAt s.data.toList d)) := by
                  have h1 : ¬ j ≤ runAt s.data.toList d := of_decide_eq_false hb0.out.symm
                  exact (decide_eq_false (fun h => h1 (by omega))).symm
                clear hstep hget
                go_wp2_with fail
                go_roundw
                case rel => exact ⟨j + 1, t + 1, false, by omega, by go_num, ht1, rfl, hn, by first | rfl | trivial⟩
                case measure => simp [intOf]; omega
              | true =>
                have h1 : j ≤ runAt s.data.toList d := of_decide_eq_true hb0.out.symm
                by_cases hc : (s[t].toNat : Int) = 111
                · have t0 : ((s[t].toNat : Int) == 111) = true := by simpa using hc
                  have hn : Hid (true = decide (j + 1 ≤ runAt s.data.toList d)) := by
                    refine (decide_eq_true (hstep.2 ⟨h1, ?_⟩)).symm
                    exact congrArg some (beq_iff_eq.1 ((byte_eq s[t] 111 (by omega)).trans t0))
                  clear hstep hget hc h1
                  go_wp2_with fail
                  go_roundw
                  case rel => exact ⟨j + 1, t + 1, true, by omega, by go_num, ht1, rfl, hn, by first | rfl | trivial⟩
                  case measure => simp [intOf]; omega
                · have t0 : ((s[t].toNat : Int) == 111) = false := by simpa using hc
                  have hn : Hid (false = decide (j + 1 ≤ runAt s.data.toList d)) := by
                    refine (decide_eq_false fun h => ?_).symm
                    have h3 := (hstep.1 h).2
                    injection h3 with h3
                    have h2 := (byte_eq s[t] 111 (by omega)).trans t0
                    rw [h3] at h2
                    exact absurd h2 (by decide)
                  clear hstep hget hc h1
                  go_wp2_with fail
                  go_roundw
                  case rel => exact ⟨j + 1, t + 1, false, by omega, by go_num, ht1, rfl, hn, by first | rfl | trivial⟩
                  case measure => simp [intOf]; omega
            · obtain rfl : j = k := by omega
              have htk : ¬ t < d + j := by omega
              have hi := Hiff.out d hde
              have hbe := hb0.out
              clear htj
              by_cases hd2 : d = e
              · obtain rfl : b = true := by rw [hbe]; exact decide_eq_true (hi.2 hd2)
                have t0 := bT (show (d : Int) = e by omega)
                clear hi hbe hb0 hd2
                go_wp2_with fail
                go_roundw
                case rel => exact ⟨d + 1, by omega, by go_num, by first | rfl | trivial⟩
                case measure => simp [intOf]; omega
              · obtain rfl : b = false := by rw [hbe]; exact decide_eq_false (fun h => hd2 (hi.1 h))
                have t0 := bF (show ¬ (d : Int) = e by omega)
                clear hi hbe hb0 hd2
                go_wp2_with fail
                go_roundw
                case rel => exact ⟨d + 1, by omega, by go_num, by first | rfl | trivial⟩
                case measure => simp [intOf]; omega
        · obtain rfl : d = e + 1 := by omega
          rcases Hless.out with h1 | ⟨x, hx, hx0, hxe⟩
          · subst h1
            go_wp2_with fail
            go_ret
            exact ⟨rfl, hb⟩
          · have HX := Lib.hid (HW.out ((k : Int) - 1))
            rw [← hx] at HX
            clear hx
            by_cases hk2 : k = 1
            · subst hk2
              go_wp2_with fail
              go_ret
              exact ⟨rfl, hb⟩
            · have t0 := bF (show ¬ (k : Int) = 1 by omega)
              go_wp2_with fail
              refine (HX.out _ (HT.out.on hb)).mono ?_
              rintro e' w4 ⟨rfl, hb4⟩
              replace hb := hb.trans (hb4.mono hb.size)
              clear hb4
              go_wp2_with fail
              refine (HX.out _ (HT.out.on hb)).mono ?_
              rintro e' w5 ⟨rfl, hb5⟩
              replace hb := hb.trans (hb5.mono hb.size)
              go_wp2_with fail
              go_ret
              exact ⟨rfl, hb⟩
end Go.Proofs.YtmccicgpgcidoaaDoor
