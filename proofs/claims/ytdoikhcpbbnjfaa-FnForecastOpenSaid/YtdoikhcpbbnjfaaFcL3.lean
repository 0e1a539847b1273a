/- The laws FnForecastOpen and FnForecast, walked. -/
import Derived.Test.YtdoikhcpbbnjfaaFcL2
namespace Go.Proofs.Ytdoikhcpbbnjfaa
set_option linter.unusedVariables false
set_option linter.unusedSimpArgs false
open Go.RowKit
theorem fcOpen_next (l : List UInt8) (k : Nat) (hv : fcValid l = true) (h : k < l.length) : ∃ c, l[k]? = some c ∧ fcOpen l ((k : Int) + 1) = (fcAhead l k : Int) + (if c == 111 then 1 else 0) := by
  refine ⟨l[k], List.getElem?_eq_getElem h, ?_⟩
  rw [show (k : Int) + 1 = ((k + 1 : Nat) : Int) by omega, fcOpen_on hv (by omega), fcAhead_succ l k h]
  split <;> simp
theorem extract_one (s : ByteArray) (k : Nat) (c : UInt8) (h : s.data.toList[k]? = some c) : s.extract k (k + 1) = ⟨#[c]⟩ := by
  apply ByteArray.ext
  apply Array.ext'
  rw [ByteArray.data_extract, Array.toList_extract, List.extract_eq_take_drop, Nat.add_sub_cancel_left]
  have hk : k < s.data.toList.length := (List.getElem?_eq_some_iff.1 h).1
  rw [List.drop_eq_getElem_cons hk]
  rw [List.getElem?_eq_getElem hk] at h
  injection h with h
  rw [h]; rfl
theorem walk_ForecastOpen (a0 : Option Addr) (len0 cap0 : Nat) (z0 : List Int) (w : World) (w0 : ArgB w a0 len0 cap0 z0) :
    Calls Try.prog 8 #[.slice a0 len0 cap0] w fun e w' => e = .returned (.bool true) ∧ Below w.heap.size w w' := by
  obtain ⟨hl, hm, hby⟩ := w0.byt
  have hm' := hm
  unfold maxLen at hm'
  by_cases h : 1048576 < len0
  · go_enter Try.func8, Try.ntmps8
    go_wp2_with fail
    go_ret
    exact ⟨rfl, Below.refl _ _⟩
  · go_enter Try.func8, Try.ntmps8
    go_wp2_with fail
    refine (drawOpen a0 len0 cap0 hl hm _ hby).mono ?_
    rintro e w1 ⟨s, d, hs, hd0, hd1, rfl, hb1⟩
    have hsm : s.size ≤ maxLen := by unfold maxLen; omega
    go_wp2_with fail
    refine (implOpen s hsm d _).mono ?_
    rintro e w2 ⟨rfl, hb2⟩
    replace hb2 := hb1.trans (hb2.mono hb1.size)
    clear hb1
    go_wp2_with fail
    refine (specOpen s hsm d _).mono ?_
    rintro e w3 ⟨rfl, rfl⟩
    by_cases hneg : fcOpen s.data.toList d < 0
    · go_wp2_with fail
      go_ret
      exact ⟨rfl, hb2⟩
    · obtain ⟨hv, k, rfl, hk, hout⟩ := fcOpen_nonneg hneg
      have hlen : s.data.toList.length = s.size := by simp
      have hle := fcAhead_le s.data.toList k
      have hmono := fcAhead_mono s.data.toList k s.data.toList.length hk
      have hday : fcDay s.data.toList (fcAhead s.data.toList k : Int) = (fcDayN s.data.toList (fcAhead s.data.toList k) : Int) := fcDay_on hv hmono
      have hd1' := fcDayN_le s.data.toList k hk
      have hd2' := fcDayN_ge s.data.toList _ hmono
      have hnext := fcOpen_next s.data.toList k hv
      rw [hout]
      obtain ⟨x, hx⟩ : ∃ x, x = fcAhead s.data.toList k := ⟨_, rfl⟩
      rw [← hx] at hle hmono hday hd1' hd2' hnext ⊢
      obtain ⟨y, hy⟩ : ∃ y, y = fcDayN s.data.toList x := ⟨_, rfl⟩
      rw [← hy] at hday hd1' hd2'
      have hv30 := fcValid_len hv
      have HD := Lib.hid hday
      have HN := Lib.hid hnext
      have hks : k ≤ s.size := by omega
      have hs30 : s.size ≤ 30 := by omega
      have Hlen := Lib.hid hlen
      clear hday hnext hlen hout hx hy hneg hmono hk hv30 hv
      go_wp2_with fail
      refine (implOpen s hsm _ _).mono ?_
      rintro e w4 ⟨rfl, hb4⟩
      replace hb4 := hb2.trans (hb4.mono hb2.size)
      clear hb2
      by_cases hlt : k < s.size
      · obtain ⟨c, hc, hnx⟩ := HN.out (by rw [Hlen.out]; exact hlt)
        have hcount := Lib.hid (countOf_one c)
        have hsl : s.extract k (k + 1) = ⟨#[c]⟩ := extract_one s k c hc
        rw [hnx]
        replace hsl := Lib.hid hsl
        replace hc := Lib.hid hc
        clear hnx
        obtain ⟨r, hr⟩ : ∃ r : Int, r = (if c == 111 then 1 else 0) := ⟨_, rfl⟩
        rw [← hr] at hcount ⊢
        have hrb : 0 ≤ r ∧ r ≤ 1 := by rw [hr]; split <;> simp
        obtain ⟨hr0, hr1⟩ := hrb
        clear hr
        go_wp2_with fail
        refine (hcount.out _ hsl.out _).mono ?_
        rintro e w5 ⟨rfl, rfl⟩
        have g1 : ((x : Int) + r - (x : Int) != r) = false := nF (by omega)
        go_wp2_with fail
        refine (implDay s hsm _ _).mono ?_
        rintro e w5 ⟨rfl, hb5⟩
        replace hb5 := hb4.trans (hb5.mono hb4.size)
        clear hb4
        rw [HD.out]
        go_wp2_with fail
        refine (implDay s hsm _ _).mono ?_
        rintro e w6 ⟨rfl, hb6⟩
        replace hb6 := hb5.trans (hb6.mono hb5.size)
        clear hb5
        rw [HD.out]
        go_wp2_with fail
        go_ret
        exact ⟨rfl, hb6⟩
      · have hge : s.size ≤ k := by omega
        clear hlt
        obtain ⟨nx, hnx⟩ : ∃ nx, nx = fcOpen s.data.toList ((k : Int) + 1) := ⟨_, rfl⟩
        rw [← hnx]
        clear hnx
        go_wp2_with fail
        refine (implDay s hsm _ _).mono ?_
        rintro e w5 ⟨rfl, hb5⟩
        replace hb5 := hb4.trans (hb5.mono hb4.size)
        clear hb4
        rw [HD.out]
        go_wp2_with fail
        refine (implDay s hsm _ _).mono ?_
        rintro e w6 ⟨rfl, hb6⟩
        replace hb6 := hb5.trans (hb6.mono hb5.size)
        clear hb5
        rw [HD.out]
        go_wp2_with fail
        go_ret
        exact ⟨rfl, hb6⟩

theorem extract_take (s : ByteArray) (k : Nat) : (s.extract 0 k).data.toList = s.data.toList.take k := by
  rw [ByteArray.data_extract, Array.toList_extract, List.extract_eq_take_drop]; simp
theorem extract_drop (s : ByteArray) (k : Nat) : (s.extract k s.size).data.toList = s.data.toList.drop k := by
  rw [ByteArray.data_extract, Array.toList_extract, List.extract_eq_take_drop]
  apply List.take_of_length_le
  rw [List.length_drop]; simp
theorem walk_Forecast (a0 : Option Addr) (len0 cap0 : Nat) (z0 : List Int) (a1 : Option Addr) (len1 cap1 : Nat) (z1 : List Int) (w : World) (w0 : ArgB w a0 len0 cap0 z0) (w1 : ArgB w a1 len1 cap1 z1) :
    Calls Try.prog 6 #[.slice a0 len0 cap0, .slice a1 len1 cap1] w fun e w' => e = .returned (.bool true) ∧ Below w.heap.size w w' := by
  obtain ⟨hl, hm, hby⟩ := w0.byt
  obtain ⟨hl1, hm1, _⟩ := w1.byt
  have hm' := hm
  unfold maxLen at hm'
  have hm1' := hm1
  unfold maxLen at hm1'
  by_cases h : 1048576 < len0
  · go_enter Try.func6, Try.ntmps6
    go_wp2_with fail
    go_ret
    exact ⟨rfl, Below.refl _ _⟩
  · by_cases h1 : 1048576 < len1
    · go_enter Try.func6, Try.ntmps6
      go_wp2_with fail
      go_ret
      exact ⟨rfl, Below.refl _ _⟩
    · go_enter Try.func6, Try.ntmps6
      go_wp2_with fail
      refine (drawValid a0 len0 cap0 hl hm _ hby).mono ?_
      rintro e w1 ⟨s, hs, rfl, hb1⟩
      have hsm : s.size ≤ maxLen := by unfold maxLen; omega
      go_wp2_with fail
      refine (implValid s hsm _).mono ?_
      rintro e w2 ⟨rfl, hb2⟩
      replace hb2 := hb1.trans (hb2.mono hb1.size)
      clear hb1
      go_wp2_with fail
      refine (specValid s hsm _).mono ?_
      rintro e w3 ⟨rfl, rfl⟩
      by_cases hv : fcValid s.data.toList = true
      · rw [hv]
        have hk0 : 0 ≤ (len1 : Int) % ((s.size : Int) + 1) := Int.emod_nonneg _ (by omega)
        have hk1 : (len1 : Int) % ((s.size : Int) + 1) < (s.size : Int) + 1 := Int.emod_lt_of_pos _ (by omega)
        obtain ⟨k, hk⟩ := Int.eq_ofNat_of_zero_le hk0
        rw [hk] at hk1
        have hks : k ≤ s.size := by omega
        have hlen : s.data.toList.length = s.size := by simp
        clear hk0 hk1
        have hA : fcOpen (s.extract 0 k).data.toList (k : Int) = (fcAhead (s.data.toList.take k) k : Int) := by
          rw [extract_take, fcOpen_on (fcValid_take hv k) (by rw [List.length_take]; omega)]
        have hB : fcOpen (s.extract k s.size).data.toList ((s.size : Int) - (k : Int)) = (fcAhead (s.data.toList.drop k) (s.data.toList.length - k) : Int) := by
          rw [extract_drop, show (s.size : Int) - (k : Int) = ((s.data.toList.length - k : Nat) : Int) by omega, fcOpen_on (fcValid_drop hv k) (by rw [List.length_drop]; omega)]
        have hC : fcOpen s.data.toList (s.size : Int) = (fcAhead s.data.toList s.data.toList.length : Int) := by
          rw [← hlen, fcOpen_on hv (Nat.le_refl _)]
        have hsum := fcAhead_split s.data.toList k (by omega)
        have hvA : fcValid (s.extract 0 k).data.toList = true := by rw [extract_take]; exact fcValid_take hv k
        have hvB : fcValid (s.extract k s.size).data.toList = true := by rw [extract_drop]; exact fcValid_drop hv k
        have hle1 := fcAhead_le (s.data.toList.take k) k
        have hle2 := fcAhead_le (s.data.toList.drop k) (s.data.toList.length - k)
        obtain ⟨x, hx⟩ : ∃ x, x = fcAhead (s.data.toList.take k) k := ⟨_, rfl⟩
        obtain ⟨y, hy⟩ : ∃ y, y = fcAhead (s.data.toList.drop k) (s.data.toList.length - k) := ⟨_, rfl⟩
        obtain ⟨z, hz⟩ : ∃ z, z = fcAhead s.data.toList s.data.toList.length := ⟨_, rfl⟩
        rw [← hx] at hA hsum hle1
        rw [← hy] at hB hsum hle2
        rw [← hz] at hC hsum
        have hsA : (s.extract 0 k).size ≤ maxLen := by rw [ByteArray.size_extract]; unfold maxLen; omega
        have hsB : (s.extract k s.size).size ≤ maxLen := by rw [ByteArray.size_extract]; unfold maxLen; omega
        replace hA := Lib.hid hA
        replace hB := Lib.hid hB
        replace hC := Lib.hid hC
        replace hvA := Lib.hid hvA
        replace hvB := Lib.hid hvB
        have hle3 : y ≤ s.size := by omega
        have heq : ((x : Int) + (y : Int) == (z : Int)) = true := bT (by omega)
        clear hx hy hz hsum hlen hv hle2
        go_wp2_with fail
        refine (implOpen _ hsA _ _).mono ?_
        rintro e w4 ⟨rfl, hb4⟩
        replace hb4 := hb2.trans (hb4.mono hb2.size)
        clear hb2
        rw [hA.out]
        go_wp2_with fail
        refine (implOpen _ hsB _ _).mono ?_
        rintro e w5 ⟨rfl, hb5⟩
        replace hb5 := hb4.trans (hb5.mono hb4.size)
        clear hb4
        rw [hB.out]
        go_wp2_with fail
        refine (implValid _ hsA _).mono ?_
        rintro e w6 ⟨rfl, hb6⟩
        replace hb6 := hb5.trans (hb6.mono hb5.size)
        clear hb5
        rw [hvA.out]
        go_wp2_with fail
        refine (implValid _ hsB _).mono ?_
        rintro e w7 ⟨rfl, hb7⟩
        replace hb7 := hb6.trans (hb7.mono hb6.size)
        clear hb6
        rw [hvB.out]
        go_wp2_with fail
        refine (implOpen s hsm _ _).mono ?_
        rintro e w8 ⟨rfl, hb8⟩
        replace hb8 := hb7.trans (hb8.mono hb7.size)
        clear hb7
        rw [hC.out]
        go_wp2_with fail
        go_ret
        exact ⟨rfl, hb8⟩
      · have hv : fcValid s.data.toList = false := by simpa using hv
        rw [hv]
        clear hv
        go_wp2_with fail
        go_ret
        exact ⟨rfl, hb2⟩
end Go.Proofs.Ytdoikhcpbbnjfaa
