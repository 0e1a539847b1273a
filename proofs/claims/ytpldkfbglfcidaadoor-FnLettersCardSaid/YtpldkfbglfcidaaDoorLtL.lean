/- The law FnLetters, walked. -/
import Derived.Test.YtpldkfbglfcidaaDoorByt
import Derived.Test.YtpldkfbglfcidaaDoorLtP
import Derived.Test.YtpldkfbglfcidaaDoorIr
namespace Go.Proofs.YtpldkfbglfcidaaDoor
set_option linter.unusedVariables false
set_option linter.unusedSimpArgs false
open Go.RowKit
def DrawnNum (hi : Int) (w : World) (e : Ending) (w' : World) : Prop := ∃ v : Int, 0 ≤ v ∧ v < hi ∧ e = .returned (.int .i64 v) ∧ Below w.heap.size w w'
theorem drawLetters (A : Option Addr) (n c : Nat) (hnc : n ≤ c) (hc : c ≤ maxLen) (w : World) (h : Byt w w.heap.size A n) :
    Calls Tryd.prog 12 #[.slice A n c] w (DrawnNum 18 w) := by
  go_enter Tryd.func12, Tryd.ntmps12
  go_wp2_with fail
  refine (open_any A n c hnc hc _ h).mono ?_
  rintro e w1 ⟨g, rfl, hr, hb⟩
  have hge : w.heap.size ≤ g := by obtain ⟨A, n, c, _, hB, _⟩ := hr; exact hB
  go_wp2_with fail
  refine (pick_any _ _ _ _ (by omega) (by omega) _ hr (by omega)).mono ?_
  rintro e w2 ⟨v, rfl, ⟨hv0, hv1, _⟩, hr2, hg2⟩
  have hb2 := hb.grown hg2 hb.size (fun k hk => by injection hk with hk; omega)
  have hv2 := hv1 (by omega)
  clear hv1
  go_wp2_with fail
  go_ret
  exact ⟨v, hv0, hv2, rfl, hb2⟩
theorem dig_cut (r : Nat) : (⟨#[45, 43, 48]⟩ : ByteArray).extract (r % 3) (r % 3 + 1) = ⟨#[digC (r % 3)]⟩ := by
  rcases (by omega : r % 3 = 0 ∨ r % 3 = 1 ∨ r % 3 = 2) with h | h | h <;> rw [h] <;> rfl
theorem digs_next (i k r : Nat) (h : r = k / 3 ^ i) : (⟨(digs i k).toArray⟩ : ByteArray) ++ (⟨#[45, 43, 48]⟩ : ByteArray).extract (r % 3) (r % 3 + 1) = ⟨(digs (i + 1) k).toArray⟩ := by
  rw [dig_cut, digs, ← h]
  apply ByteArray.ext; simp [ByteArray.data_append]
theorem rest_next (i k r : Nat) (h : r = k / 3 ^ i) : r / 3 = k / 3 ^ (i + 1) := by
  rw [h, Nat.div_div_eq_div_mul, Nat.pow_succ]
theorem pow_small (i : Nat) (h : i ≤ 6) : 3 ^ i ≤ 729 := Nat.pow_le_pow_right (n := 3) (by omega) h
set_option maxHeartbeats 2000000 in
set_option maxRecDepth 100000 in
theorem law_Letters (a0 : Option Addr) (len0 cap0 : Nat) (z0 : List Int) (w : World) (w0 : ArgB w a0 len0 cap0 z0) :
    Calls Tryd.prog 3 #[.slice a0 len0 cap0] w fun e w' => e = .returned (.bool true) ∧ Below w.heap.size w w' := by
  obtain ⟨hl0, hm0, hby0⟩ := w0.byt
  have hm0' := hm0
  unfold maxLen at hm0'
  by_cases h0 : 1048576 < len0
  · go_enter Tryd.func3, Tryd.ntmps3
    go_wp2_with fail
    go_ret
    exact ⟨rfl, Below.refl _ _⟩
  have hdr := Lib.hid (drawLetters a0 len0 cap0 hl0 hm0 _ hby0)
  have HI := Lib.hid implLettersI
  have HS := Lib.hid specLettersI
  have HR := Lib.hid (fun s hs w => implRd s hs w)
  go_enter Tryd.func3, Tryd.ntmps3
  go_wp2_with fail
  refine hdr.out.mono ?_
  rintro e w1 ⟨n, hn0, hn18, rfl, hw⟩
  have h1 := HI.out n
  have h2 := HS.out n
  have h3 := HI.out (n + 1)
  by_cases hn : 1 ≤ n ∧ n ≤ 16
  · obtain ⟨m, rfl⟩ := Int.eq_ofNat_of_zero_le hn0
    have hm1 : 1 ≤ m := by omega
    have hm16 : m ≤ 16 := by omega
    obtain ⟨u1, u2⟩ := lettersW_up ⟨m, by omega⟩ hm1
    have u3 := lettersW_big ⟨m, by omega⟩
    dsimp only at u1 u2 u3
    have hcnt : Hid (m ≤ 6 → cntTo m (3 ^ m) = lettersW m) := fun h => cnt_all ⟨m, by omega⟩ hm1
    have e1 : lettersI (m : Int) = (lettersW m : Int) := by unfold lettersI; rw [if_pos (by omega)]; rfl
    rw [e1] at h1 h2
    obtain ⟨L, hL⟩ : ∃ L, L = lettersW m := ⟨_, rfl⟩
    obtain ⟨X, hX⟩ : ∃ X, X = lettersI ((m : Int) + 1) := ⟨_, rfl⟩
    have hXL : m < 16 → ¬ X < (L : Int) := fun h => by
      rw [hX, hL]; unfold lettersI; rw [if_pos (by omega), show ((m : Int) + 1).toNat = m + 1 by omega]
      have := u2 h
      omega
    rw [← hL] at h1 h2 u1 u2 u3 hcnt
    rw [← hX] at h3
    replace h1 := Lib.hid h1
    replace h2 := Lib.hid h2
    replace h3 := Lib.hid h3
    have HXL := Lib.hid hXL
    clear hL hX u2 hXL e1 hn
    go_wp2_with fail
    refine (h1.out _).mono ?_
    rintro e w2 ⟨rfl, hb2⟩
    replace hw := hw.trans (hb2.mono hw.size)
    clear hb2
    go_wp2_with fail
    refine (h2.out _).mono ?_
    rintro e w3 ⟨rfl, hb3⟩
    replace hw := hw.trans (hb3.mono hw.size)
    clear hb3
    go_wp2_with fail
    refine (h3.out _).mono ?_
    rintro e w4 ⟨rfl, hb4⟩
    replace hw := hw.trans (hb4.mono hw.size)
    clear hb4 h1 h2 h3
    by_cases h6 : 6 < m
    · by_cases h16 : m < 16
      · have hnl := HXL.out h16
        go_wp2_with fail
        go_ret
        exact ⟨rfl, hw⟩
      · go_wp2_with fail
        go_ret
        exact ⟨rfl, hw⟩
    · have hnl := HXL.out (by omega)
      have h6' : m ≤ 6 := by omega
      have Hc := Lib.hid (hcnt.out h6')
      have hp := pow_small m h6'
      have HP := Lib.hid pow_small
      clear hcnt HXL
      go_wp2_with fail
      go_loopw [7, 8] (fun al i wr => ∃ k p : Nat, k ≤ m ∧ i = .int .i64 k ∧ al = .int .i64 p ∧ Hid (p = 3 ^ k) ∧ p ≤ 729 ∧ Below w.heap.size w wr) (fun _ i _ => m - (intOf i).toNat)
      case atStart => exact ⟨0, 1, by omega, rfl, rfl, rfl, by omega, hw⟩
      case round =>
        obtain ⟨k, p, hk, rfl, rfl, hpk, hp7, hbel⟩ := hrel
        by_cases hlt : k < m
        · have hk1 : k + 1 ≤ m := by omega
          have hnx : Hid (3 * p = 3 ^ (k + 1)) := by show _ = _; rw [hpk.out, Nat.pow_succ]; omega
          have hnb : 3 * p ≤ 729 := by rw [hnx.out]; exact HP.out _ (by omega)
          go_wp2_with fail
          go_roundw
          case rel => exact ⟨k + 1, 3 * p, by omega, by go_num, by go_num, hnx.out, hnb, hbel⟩
          case measure => simp [intOf]; omega
        · obtain rfl : k = m := by omega
          rw [← hpk.out] at Hc hp
          clear hw
          go_wp2_with fail
          go_loopw [9, 10] (fun many set wr => ∃ j cn : Nat, j ≤ p ∧ set = .int .i64 j ∧ many = .int .i64 cn ∧ Hid (cn = cntTo k j) ∧ cn ≤ j ∧ Below w.heap.size w wr) (fun _ set _ => p - (intOf set).toNat)
          case atStart => exact ⟨0, 0, by omega, rfl, rfl, rfl, by omega, hbel⟩
          case round =>
            clear hbel
            obtain ⟨j, cn, hj, rfl, rfl, hcn, hcj, hbel⟩ := hrel
            by_cases hlt2 : j < p
            · have hj1 : j + 1 ≤ p := by omega
              have hj7 : j ≤ 729 := by omega
              go_wp2_with fail
              go_loopw [11, 12, 13] (fun sg re i wr => ∃ i' r : Nat, i' ≤ k ∧ i = .int .i64 i' ∧ re = .int .i64 r ∧ sg = .string ⟨(digs i' j).toArray⟩ ∧ Hid (r = j / 3 ^ i') ∧ r ≤ 729 ∧ Below w.heap.size w wr) (fun _ _ i _ => k - (intOf i).toNat)
              case atStart => exact ⟨0, j, by omega, rfl, rfl, rfl, by simp [Hid], by omega, hbel⟩
              case round =>
                clear hbel
                obtain ⟨i, r, hi, rfl, rfl, rfl, hr, hr7, hbel⟩ := hrel
                have hdl := digs_len i j
                by_cases hlt3 : i < k
                · have hs1 := Lib.hid (digs_next i j r hr.out)
                  have hs2 := Lib.hid (rest_next i j r hr.out)
                  have hi1 : i + 1 ≤ k := by omega
                  go_wp2_with fail
                  go_roundw
                  case rel => exact ⟨i + 1, r / 3, by omega, by go_num, by go_num, congrArg Value.string hs1.out, hs2.out, by omega, hbel⟩
                  case measure => simp [intOf]; omega
                · obtain rfl : i = k := by omega
                  have hrd := HR.out ⟨(digs i j).toArray⟩ (by show (digs i j).toArray.size ≤ maxLen; unfold maxLen; simp; omega)
                  dsimp only at hrd
                  replace hrd := Lib.hid hrd
                  have hnx : Hid (cntTo i (j + 1) = cn + if rdOk (digs i j) = true then 1 else 0) := by show _ = _; rw [cntTo, hcn.out]
                  go_wp2_with fail
                  refine (hrd.out _).mono ?_
                  rintro e w9 ⟨t, ok, rfl, hR, hb9⟩
                  replace hbel := hbel.trans (hb9.mono hbel.size)
                  have hok := hR.2
                  clear hb9 hR
                  cases ok with
                  | false =>
                    have hn2 : Hid (cn = cntTo i (j + 1)) := by show _ = _; rw [hnx.out, ← hok]; rfl
                    clear hok hnx
                    go_wp2_with fail
                    go_roundw
                    case rel => exact ⟨j + 1, cn, by omega, by go_num, rfl, hn2.out, by omega, hbel⟩
                    case measure => simp [intOf]; omega
                  | true =>
                    have hn2 : Hid (cn + 1 = cntTo i (j + 1)) := by show _ = _; rw [hnx.out, ← hok]; rfl
                    clear hok hnx
                    go_wp2_with fail
                    go_roundw
                    case rel => exact ⟨j + 1, cn + 1, by omega, by go_num, by go_num, hn2.out, by omega, hbel⟩
                    case measure => simp [intOf]; omega
            · obtain rfl : j = p := by omega
              have hfin : (cn : Int) = L := by rw [hcn.out, Hc.out]
              have hfin2 := bT hfin
              clear hfin
              go_wp2_with fail
              go_ret
              exact ⟨by simp, hbel⟩
  · have e1 : lettersI n = -1 := by unfold lettersI; rw [if_neg hn]
    rw [e1] at h1 h2
    replace h1 := Lib.hid h1
    replace h2 := Lib.hid h2
    clear h3 e1
    go_wp2_with fail
    refine (h1.out _).mono ?_
    rintro e w2 ⟨rfl, hb2⟩
    replace hw := hw.trans (hb2.mono hw.size)
    go_wp2_with fail
    refine (h2.out _).mono ?_
    rintro e w3 ⟨rfl, hb3⟩
    replace hw := hw.trans (hb3.mono hw.size)
    go_wp2_with fail
    go_ret
    exact ⟨rfl, hw⟩
end Go.Proofs.YtpldkfbglfcidaaDoor
