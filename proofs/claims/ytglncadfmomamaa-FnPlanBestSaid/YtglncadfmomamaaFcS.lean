/- The reference's forecast functions, walked. -/
import Derived.Test.YtglncadfmomamaaChecked
import Derived.Test.YtglncadfmomamaaFc
import Derived.Test.YtglncadfmomamaaSm
import Derived.WalkLawsBesides
import Derived.WalkSpells
import Derived.Outline
import Derived.BigRegion
import Derived.BigQuiet
import Derived.Deep.QuietTactic
namespace Go.Proofs.Ytglncadfmomamaa
set_option linter.unusedVariables false
set_option linter.unusedSimpArgs false
open Go.RowKit


theorem byte_eq (c : UInt8) (n : Nat) (h : n < 256) : (c == UInt8.ofNat n) = ((c.toNat : Int) == (n : Int)) := by
  rw [Bool.eq_iff_iff]; simp [← UInt8.toNat_inj]; omega
theorem at_list (s : ByteArray) (k : Nat) (h : k < s.size) : s.data.toList[k]? = some s[k] := by
  rw [List.getElem?_eq_getElem (by simpa using h)]; rfl
theorem all_take_succ {l : List UInt8} {p : UInt8 → Bool} {k : Nat} {c : UInt8} (h : l[k]? = some c) : (l.take (k + 1)).all p = ((l.take k).all p && p c) := by
  rw [List.take_add_one, h]; simp

theorem specValid (s : ByteArray) (hs : s.size ≤ maxLen) (w : World) :
    Calls Try.prog 88 #[.string s] w fun e w' => e = .returned (.bool (fcValid s.data.toList)) ∧ w = w' := by
  unfold maxLen at hs
  obtain ⟨R, hR⟩ : ∃ R, R = fcValid s.data.toList := ⟨_, rfl⟩
  rw [← hR]
  have HR := Lib.hid hR
  clear hR
  go_enter Try.func88, Try.ntmps88
  go_wp2
  go_loop [3] (fun v => ∃ k : Nat, k ≤ s.size ∧ v = .int .i64 k ∧ Hid ((s.data.toList.take k).all (fun c => c == 111 || c == 120) = true)) (fun v => s.size - (intOf v).toNat)
  case atStart => exact ⟨0, by omega, rfl, by simp [Hid]⟩
  case round =>
    obtain ⟨k, hk, rfl, hall⟩ := hrel
    by_cases hlt : k < s.size
    · have hc := Lib.hid (at_list s k hlt)
      by_cases h1 : (s[k].toNat : Int) = 111
      · have h1' : ((s[k].toNat : Int) == 111) = true := by simpa using h1
        have h1n : ((s[k].toNat : Int) != 111) = false := by simpa using h1
        clear h1
        go_wp2
        go_round
        case rel => exact ⟨k + 1, by omega, by go_num, by unfold Hid; rw [all_take_succ hc.out, hall.out, show s[k] == (111 : UInt8) from (byte_eq _ 111 (by omega)).trans h1']; rfl⟩
        case measure => simp [intOf]; omega
      · have h1' : ((s[k].toNat : Int) == 111) = false := by simpa using h1
        have h1n : ((s[k].toNat : Int) != 111) = true := by simpa using h1
        clear h1
        by_cases h2 : (s[k].toNat : Int) = 120
        · have h2' : ((s[k].toNat : Int) == 120) = true := by simpa using h2
          have h2n : ((s[k].toNat : Int) != 120) = false := by simpa using h2
          clear h2
          go_wp2
          go_round
          case rel => exact ⟨k + 1, by omega, by go_num, by unfold Hid; rw [all_take_succ hc.out, hall.out, show (s[k] == (120 : UInt8)) = true from (byte_eq _ 120 (by omega)).trans h2']; simp⟩
          case measure => simp [intOf]; omega
        · have h2' : ((s[k].toNat : Int) == 120) = false := by simpa using h2
          have h2n : ((s[k].toNat : Int) != 120) = true := by simpa using h2
          clear h2
          go_wp2
          go_ret
          refine ⟨ret_bool ?_, rfl⟩
          rw [HR.out]
          have hf : fcOk s.data.toList = false := by
            unfold fcOk
            rw [List.all_eq_false]
            exact ⟨s[k], List.mem_of_getElem? hc.out, by rw [show (s[k] == (111 : UInt8)) = false from (byte_eq _ 111 (by omega)).trans h1', show (s[k] == (120 : UInt8)) = false from (byte_eq _ 120 (by omega)).trans h2']; simp⟩
          rw [fcValid, hf]; rfl
    · obtain rfl : k = s.size := by omega
      go_wp2
      go_ret
      refine ⟨ret_bool ?_, rfl⟩
      rw [HR.out]
      have hf : fcOk s.data.toList = true := by
        have := hall.out
        rwa [List.take_of_length_le (by simp)] at this
      rw [fcValid, hf]; simp; omega
theorem specValid_is (s : ByteArray) (hs : s.size ≤ maxLen) (b : Bool) (h : fcValid s.data.toList = b) (w : World) :
    Calls Try.prog 88 #[.string s] w fun e w' => e = .returned (.bool b) ∧ w = w' :=
  (specValid s hs w).mono fun _ _ ⟨he, hw⟩ => ⟨by rw [he, h], hw⟩

theorem fcOpen_on {l : List UInt8} {d : Nat} (h : fcValid l = true) (hd : d ≤ l.length) : fcOpen l d = (fcAhead l d : Int) := by
  unfold fcOpen; rw [if_pos ⟨h, by omega, by omega⟩, Int.toNat_natCast]
theorem fcOpen_off {l : List UInt8} {d : Int} (h : fcValid l = false ∨ ¬ (0 ≤ d ∧ d ≤ l.length)) : fcOpen l d = -1 := by
  unfold fcOpen; rw [if_neg]; rintro ⟨a, b⟩; rcases h with h | h
  · rw [a] at h; cases h
  · exact h b

theorem specOpen (s : ByteArray) (hs : s.size ≤ maxLen) (day : Int) (w : World) :
    Calls Try.prog 89 #[.string s, .int .i64 day] w fun e w' => e = .returned (.int .i64 (fcOpen s.data.toList day)) ∧ w = w' := by
  have hlen : s.data.toList.length = s.size := by simp
  by_cases hv : fcValid s.data.toList = true
  · have H := Lib.hid (specValid_is s hs true hv)
    by_cases hd : 0 ≤ day ∧ day ≤ s.size
    · obtain ⟨d, rfl⟩ := Int.eq_ofNat_of_zero_le hd.1
      rw [fcOpen_on hv (by omega)]
      have hd1 : d ≤ s.size := by omega
      unfold maxLen at hs
      clear hd
      have Hv := Lib.hid hv
      have Hlen := Lib.hid hlen
      clear hv hlen
      go_enter Try.func89, Try.ntmps89
      go_wp2_with (first | (go_at_call 88; refine (H.out _).mono ?_; rintro e w' ⟨rfl, rfl⟩) | (go_at_call 48; refine (l6In_yes _ _ _ (by omega) _).mono ?_; rintro e w' ⟨rfl, rfl⟩))
      go_loop [5, 6] (fun n i => ∃ k : Nat, k ≤ d ∧ i = .int .i64 k ∧ n = .int .i64 (fcAhead s.data.toList k)) (fun _ i => d - (intOf i).toNat)
      case atStart => exact ⟨0, by omega, rfl, by rw [fcAhead_zero]; rfl⟩
      case round =>
        obtain ⟨k, hk, rfl, rfl⟩ := hrel
        have hle := fcAhead_le s.data.toList k
        by_cases hlt : k < d
        · have hks : k < s.size := by omega
          have hsucc := fcAhead_succ s.data.toList k (by rw [Hlen.out]; exact hks)
          have hget : s.data.toList[k]'(by rw [Hlen.out]; exact hks) = s[k] := rfl
          rw [hget] at hsucc
          replace hsucc := Lib.hid hsucc
          clear hget
          by_cases h1 : (s[k].toNat : Int) = 111
          · have h1' : ((s[k].toNat : Int) == 111) = true := by simpa using h1
            clear h1
            go_wp2
            go_round
            case rel => exact ⟨k + 1, by omega, by go_num, by rw [hsucc.out, show (s[k] == (111 : UInt8)) = true from (byte_eq _ 111 (by omega)).trans h1']; go_num⟩
            case measure => simp [intOf]; omega
          · have h1' : ((s[k].toNat : Int) == 111) = false := by simpa using h1
            clear h1
            go_wp2
            go_round
            case rel => exact ⟨k + 1, by omega, by go_num, by rw [hsucc.out, show (s[k] == (111 : UInt8)) = false from (byte_eq _ 111 (by omega)).trans h1']; go_num⟩
            case measure => simp [intOf]; omega
        · obtain rfl : k = d := by omega
          go_wp2
          go_ret
          exact ⟨rfl, rfl⟩
    · rw [fcOpen_off (.inr (by rw [hlen]; exact hd))]
      go_enter Try.func89, Try.ntmps89
      go_wp2_with (first | (go_at_call 88; refine (H.out _).mono ?_; rintro e w' ⟨rfl, rfl⟩) | (go_at_call 48; refine (l6In_no _ _ _ hd _).mono ?_; rintro e w' ⟨rfl, rfl⟩))
      go_ret
      exact ⟨rfl, rfl⟩
  · have hv : fcValid s.data.toList = false := by simpa using hv
    have H := Lib.hid (specValid_is s hs false hv)
    rw [fcOpen_off (.inl hv)]
    go_enter Try.func89, Try.ntmps89
    go_wp2_with (first | (go_at_call 88; refine (H.out _).mono ?_; rintro e w' ⟨rfl, rfl⟩))
    go_ret
    exact ⟨rfl, rfl⟩

theorem specOpen_on (s : ByteArray) (hs : s.size ≤ maxLen) (hv : fcValid s.data.toList = true) (d : Int) (h0 : 0 ≤ d) (hd : d ≤ s.size) (w : World) :
    Calls Try.prog 89 #[.string s, .int .i64 d] w fun e w' => e = .returned (.int .i64 (fcAhead s.data.toList d.toNat)) ∧ w = w' :=
  (specOpen s hs d w).mono fun _ _ ⟨he, hw⟩ => ⟨by
    obtain ⟨k, rfl⟩ := Int.eq_ofNat_of_zero_le h0
    rw [he, fcOpen_on hv (by simp; omega)]; rfl, hw⟩

theorem fcDay_off {l : List UInt8} {k : Int} (h : fcValid l = false ∨ ¬ (0 ≤ k ∧ k ≤ fcAhead l l.length)) : fcDay l k = -1 := by
  unfold fcDay; rw [if_neg]; rintro ⟨a, b⟩; rcases h with h | h
  · rw [a] at h; cases h
  · exact h b
theorem fcDay_on {l : List UInt8} {k : Nat} (h : fcValid l = true) (hd : k ≤ fcAhead l l.length) : fcDay l k = (fcDayN l k : Int) := by
  unfold fcDay; rw [if_pos ⟨h, by omega, by omega⟩, Int.toNat_natCast]

theorem specDay (s : ByteArray) (hs : s.size ≤ maxLen) (work : Int) (w : World) :
    Calls Try.prog 72 #[.string s, .int .i64 work] w fun e w' => e = .returned (.int .i64 (fcDay s.data.toList work)) ∧ w = w' := by
  have hlen : s.data.toList.length = s.size := by simp
  by_cases hv : fcValid s.data.toList = true
  · have H := Lib.hid (specValid_is s hs true hv)
    have HO := Lib.hid (specOpen_on s hs hv)
    by_cases hd : 0 ≤ work ∧ work ≤ fcAhead s.data.toList s.size
    · obtain ⟨d, rfl⟩ := Int.eq_ofNat_of_zero_le hd.1
      rw [fcDay_on hv (by rw [hlen]; omega)]
      have hd1 : d ≤ fcAhead s.data.toList s.size := by omega
      have hle := fcAhead_le s.data.toList s.size
      unfold maxLen at hs
      clear hd
      have Hv := Lib.hid hv
      have Hlen := Lib.hid hlen
      clear hv hlen
      go_enter Try.func72, Try.ntmps72
      go_wp2_with (first | (go_at_call 88; refine (H.out _).mono ?_; rintro e w' ⟨rfl, rfl⟩) | (go_at_call 89; refine (HO.out _ (by omega) (by omega) _).mono ?_; rintro e w' ⟨rfl, rfl⟩; rw [Int.toNat_natCast]) | (go_at_call 48; refine (l6In_yes _ _ _ (by omega) _).mono ?_; rintro e w' ⟨rfl, rfl⟩))
      go_loop [5] (fun i => ∃ k : Nat, k ≤ s.size ∧ i = .int .i64 k ∧ Hid (∀ e, e < k → fcAhead s.data.toList e < d)) (fun i => s.size - (intOf i).toNat)
      case atStart => exact ⟨0, by omega, rfl, fun e he => by omega⟩
      case round =>
        obtain ⟨k, hk, rfl, hless⟩ := hrel
        have hb := fcAhead_le s.data.toList k
        by_cases hlt : fcAhead s.data.toList k < d
        · have hks : k < s.size := by
            rcases Nat.lt_or_ge k s.size with h | h
            · exact h
            · obtain rfl : k = s.size := by omega
              omega
          go_wp2_with (first | (go_at_call 89; refine (HO.out _ (by omega) (by omega) _).mono ?_; rintro e w' ⟨rfl, rfl⟩; rw [Int.toNat_natCast]))
          go_round
          case rel => exact ⟨k + 1, by omega, by go_num, fun e he => by
            rcases (by omega : e < k ∨ e = k) with h | rfl
            · exact hless.out e h
            · exact hlt⟩
          case measure => simp [intOf]; omega
        · go_wp2_with (first | (go_at_call 89; refine (HO.out _ (by omega) (by omega) _).mono ?_; rintro e w' ⟨rfl, rfl⟩; rw [Int.toNat_natCast]))
          go_ret
          exact ⟨ret_int (by rw [fcDayN_eq s.data.toList d k (by rw [Hlen.out]; exact hd1) (by omega) hless.out]), rfl⟩
    · rw [fcDay_off (.inr (by rw [hlen]; exact hd))]
      go_enter Try.func72, Try.ntmps72
      go_wp2_with (first | (go_at_call 88; refine (H.out _).mono ?_; rintro e w' ⟨rfl, rfl⟩) | (go_at_call 89; refine (HO.out _ (by omega) (by omega) _).mono ?_; rintro e w' ⟨rfl, rfl⟩; rw [Int.toNat_natCast]) | (go_at_call 48; refine (l6In_no _ _ _ hd _).mono ?_; rintro e w' ⟨rfl, rfl⟩))
      go_ret
      exact ⟨rfl, rfl⟩
  · have hv : fcValid s.data.toList = false := by simpa using hv
    have H := Lib.hid (specValid_is s hs false hv)
    rw [fcDay_off (.inl hv)]
    go_enter Try.func72, Try.ntmps72
    go_wp2_with (first | (go_at_call 88; refine (H.out _).mono ?_; rintro e w' ⟨rfl, rfl⟩))
    go_ret
    exact ⟨rfl, rfl⟩
end Go.Proofs.Ytglncadfmomamaa
