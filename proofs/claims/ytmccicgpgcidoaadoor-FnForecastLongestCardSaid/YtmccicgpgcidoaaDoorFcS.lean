/- The reference's forecast functions, walked. -/
import Derived.Test.YtmccicgpgcidoaaDoorChecked
import Derived.Test.YtmccicgpgcidoaaDoorFc
import Derived.Test.YtmccicgpgcidoaaDoorSm
import Derived.WalkLawsBesides
import Derived.WalkSpells
import Derived.Outline
import Derived.BigRegion
import Derived.BigQuiet
import Derived.Deep.QuietTactic
namespace Go.Proofs.YtmccicgpgcidoaaDoor
set_option linter.unusedVariables false
set_option linter.unusedSimpArgs false
open Go.RowKit


theorem byte_eq (c : UInt8) (n : Nat) (h : n < 256) : (c == UInt8.ofNat n) = ((c.toNat : Int) == (n : Int)) := by
  rw [Bool.eq_iff_iff]; simp [← UInt8.toNat_inj]; omega
theorem at_list (s : ByteArray) (k : Nat) (h : k < s.size) : s.data.toList[k]? = some s[k] := by
  rw [List.getElem?_eq_getElem (by simpa using h)]; rfl
theorem all_take_succ {l : List UInt8} {p : UInt8 → Bool} {k : Nat} {c : UInt8} (h : l[k]? = some c) : (l.take (k + 1)).all p = ((l.take k).all p && p c) := by
  rw [List.take_add_one, h]; simp

theorem specValid (s : ByteArray) (hs : s.size ≤ maxLen) (w : World) :
    Calls Tryd.prog 14 #[.string s] w fun e w' => e = .returned (.bool (fcValid s.data.toList)) ∧ w = w' := by
  unfold maxLen at hs
  obtain ⟨R, hR⟩ : ∃ R, R = fcValid s.data.toList := ⟨_, rfl⟩
  rw [← hR]
  have HR := Lib.hid hR
  clear hR
  go_enter Tryd.func14, Tryd.ntmps14
  go_wp2
  go_loop [3] (fun v => ∃ k : Nat, k ≤ s.size ∧ v = .int .i64 k ∧ Hid ((s.data.toList.take k).all (fun c => c == 111 || c == 120) = true)) (fun v => s.size - (intOf v).toNat)
  case atStart => exact ⟨0, by omega, rfl, by simp [Hid]⟩
  case round =>
    obtain ⟨k, hk, rfl, hall⟩ := hrel
    by_cases hlt : k < s.size
    · have hc := Lib.hid (at_list s k hlt)
      by_cases h1 : (s[k].toNat : Int) = 111
      · have h1' : ((s[k].toNat : Int) == 111) = true := by simpa using h1
        have h1n : ((s[k].toNat : Int) != 111) = false := by simpa using h1
        clear h1
        go_wp2
        go_round
        case rel => exact ⟨k + 1, by omega, by go_num, by unfold Hid; rw [all_take_succ hc.out, hall.out, show s[k] == (111 : UInt8) from (byte_eq _ 111 (by omega)).trans h1']; rfl⟩
        case measure => simp [intOf]; omega
      · have h1' : ((s[k].toNat : Int) == 111) = false := by simpa using h1
        have h1n : ((s[k].toNat : Int) != 111) = true := by simpa using h1
        clear h1
        by_cases h2 : (s[k].toNat : Int) = 120
        · have h2' : ((s[k].toNat : Int) == 120) = true := by simpa using h2
          have h2n : ((s[k].toNat : Int) != 120) = false := by simpa using h2
          clear h2
          go_wp2
          go_round
          case rel => exact ⟨k + 1, by omega, by go_num, by unfold Hid; rw [all_take_succ hc.out, hall.out, show (s[k] == (120 : UInt8)) = true from (byte_eq _ 120 (by omega)).trans h2']; simp⟩
          case measure => simp [intOf]; omega
        · have h2' : ((s[k].toNat : Int) == 120) = false := by simpa using h2
          have h2n : ((s[k].toNat : Int) != 120) = true := by simpa using h2
          clear h2
          go_wp2
          go_ret
          refine ⟨ret_bool ?_, rfl⟩
          rw [HR.out]
          have hf : fcOk s.data.toList = false := by
            unfold fcOk
            rw [List.all_eq_false]
            exact ⟨s[k], List.mem_of_getElem? hc.out, by rw [show (s[k] == (111 : UInt8)) = false from (byte_eq _ 111 (by omega)).trans h1', show (s[k] == (120 : UInt8)) = false from (byte_eq _ 120 (by omega)).trans h2']; simp⟩
          rw [fcValid, hf]; rfl
    · obtain rfl : k = s.size := by omega
      go_wp2
      go_ret
      refine ⟨ret_bool ?_, rfl⟩
      rw [HR.out]
      have hf : fcOk s.data.toList = true := by
        have := hall.out
        rwa [List.take_of_length_le (by simp)] at this
      rw [fcValid, hf]; simp; omega
theorem specValid_is (s : ByteArray) (hs : s.size ≤ maxLen) (b : Bool) (h : fcValid s.data.toList = b) (w : World) :
    Calls Tryd.prog 14 #[.string s] w fun e w' => e = .returned (.bool b) ∧ w = w' :=
  (specValid s hs w).mono fun _ _ ⟨he, hw⟩ => ⟨by rw [he, h], hw⟩

theorem fcOpen_on {l : List UInt8} {d : Nat} (h : fcValid l = true) (hd : d ≤ l.length) : fcOpen l d = (fcAhead l d : Int) := by
  unfold fcOpen; rw [if_pos ⟨h, by omega, by omega⟩, Int.toNat_natCast]
theorem fcOpen_off {l : List UInt8} {d : Int} (h : fcValid l = false ∨ ¬ (0 ≤ d ∧ d ≤ l.length)) : fcOpen l d = -1 := by
  unfold fcOpen; rw [if_neg]; rintro ⟨a, b⟩; rcases h with h | h
  · rw [a] at h; cases h
  · exact h b

theorem specOpen (s : ByteArray) (hs : s.size ≤ maxLen) (day : Int) (w : World) :
    Calls Tryd.prog 18 #[.string s, .int .i64 day] w fun e w' => e = .returned (.int .i64 (fcOpen s.data.toList day)) ∧ w = w' := by
  have hlen : s.data.toList.length = s.size := by simp
  by_cases hv : fcValid s.data.toList = true
  · have H := Lib.hid (specValid_is s hs true hv)
    by_cases hd : 0 ≤ day ∧ day ≤ s.size
    · obtain ⟨d, rfl⟩ := Int.eq_ofNat_of_zero_le hd.1
      rw [fcOpen_on hv (by omega)]
      have hd1 : d ≤ s.size := by omega
      unfold maxLen at hs
      clear hd
      have Hv := Lib.hid hv
      have Hlen := Lib.hid hlen
      clear hv hlen
      go_enter Tryd.func18, Tryd.ntmps18
      go_wp2_with (first | (go_at_call 14; refine (H.out _).mono ?_; rintro e w' ⟨rfl, rfl⟩) | (go_at_call 17; refine (l6In_yes _ _ _ (by omega) _).mono ?_; rintro e w' ⟨rfl, rfl⟩))
      go_loop [5, 6] (fun n i => ∃ k : Nat, k ≤ d ∧ i = .int .i64 k ∧ n = .int .i64 (fcAhead s.data.toList k)) (fun _ i => d - (intOf i).toNat)
      case atStart => exact ⟨0, by omega, rfl, by rw [fcAhead_zero]; rfl⟩
      case round =>
        obtain ⟨k, hk, rfl, rfl⟩ := hrel
        have hle := fcAhead_le s.data.toList k
        by_cases hlt : k < d
        · have hks : k < s.size := by omega
          have hsucc := fcAhead_succ s.data.toList k (by rw [Hlen.out]; exact hks)
          have hget : s.data.toList[k]'(by rw [Hlen.out]; exact hks) = s[k] := rfl
          rw [hget] at hsucc
          replace hsucc := Lib.hid hsucc
          clear hget
          by_cases h1 : (s[k].toNat : Int) = 111
          · have h1' : ((s[k].toNat : Int) == 111) = true := by simpa using h1
            clear h1
            go_wp2
            go_round
            case rel => exact ⟨k + 1, by omega, by go_num, by rw [hsucc.out, show (s[k] == (111 : UInt8)) = true from (byte_eq _ 111 (by omega)).trans h1']; go_num⟩
            case measure => simp [intOf]; omega
          · have h1' : ((s[k].toNat : Int) == 111) = false := by simpa using h1
            clear h1
            go_wp2
            go_round
            case rel => exact ⟨k + 1, by omega, by go_num, by rw [hsucc.out, show (s[k] == (111 : UInt8)) = false from (byte_eq _ 111 (by omega)).trans h1']; go_num⟩
            case measure => simp [intOf]; omega
        · obtain rfl : k = d := by omega
          go_wp2
          go_ret
          exact ⟨rfl, rfl⟩
    · rw [fcOpen_off (.inr (by rw [hlen]; exact hd))]
      go_enter Tryd.func18, Tryd.ntmps18
      go_wp2_with (first | (go_at_call 14; refine (H.out _).mono ?_; rintro e w' ⟨rfl, rfl⟩) | (go_at_call 17; refine (l6In_no _ _ _ hd _).mono ?_; rintro e w' ⟨rfl, rfl⟩))
      go_ret
      exact ⟨rfl, rfl⟩
  · have hv : fcValid s.data.toList = false := by simpa using hv
    have H := Lib.hid (specValid_is s hs false hv)
    rw [fcOpen_off (.inl hv)]
    go_enter Tryd.func18, Tryd.ntmps18
    go_wp2_with (first | (go_at_call 14; refine (H.out _).mono ?_; rintro e w' ⟨rfl, rfl⟩))
    go_ret
    exact ⟨rfl, rfl⟩

theorem specOpen_on (s : ByteArray) (hs : s.size ≤ maxLen) (hv : fcValid s.data.toList = true) (d : Int) (h0 : 0 ≤ d) (hd : d ≤ s.size) (w : World) :
    Calls Tryd.prog 18 #[.string s, .int .i64 d] w fun e w' => e = .returned (.int .i64 (fcAhead s.data.toList d.toNat)) ∧ w = w' :=
  (specOpen s hs d w).mono fun _ _ ⟨he, hw⟩ => ⟨by
    obtain ⟨k, rfl⟩ := Int.eq_ofNat_of_zero_le h0
    rw [he, fcOpen_on hv (by simp; omega)]; rfl, hw⟩

theorem fcDay_off {l : List UInt8} {k : Int} (h : fcValid l = false ∨ ¬ (0 ≤ k ∧ k ≤ fcAhead l l.length)) : fcDay l k = -1 := by
  unfold fcDay; rw [if_neg]; rintro ⟨a, b⟩; rcases h with h | h
  · rw [a] at h; cases h
  · exact h b
theorem fcDay_on {l : List UInt8} {k : Nat} (h : fcValid l = true) (hd : k ≤ fcAhead l l.length) : fcDay l k = (fcDayN l k : Int) := by
  unfold fcDay; rw [if_pos ⟨h, by omega, by omega⟩, Int.toNat_natCast]

end Go.Proofs.YtmccicgpgcidoaaDoor
