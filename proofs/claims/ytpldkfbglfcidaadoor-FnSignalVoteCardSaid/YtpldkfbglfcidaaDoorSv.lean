/- Strings, byte by byte; is a text a signal? -/
import Derived.Test.YtpldkfbglfcidaaDoorChecked
import Derived.Test.YtpldkfbglfcidaaDoorSm
import Derived.WalkLawsBesides
import Derived.WalkSpells
import Derived.Outline
import Derived.BigRegion
import Derived.BigQuiet
import Derived.Deep.QuietTactic
import Derived.Lib.AsciiSet
import Derived.Lib.Strings
import Derived.Lib.IndexBytes
import Derived.Lib.Walk
import Derived.Laws.Strings3
import Derived.Laws.ResultCell
import Derived.Deep.LoopGhost
import Derived.Deep.WholeRow
namespace Go.Proofs.YtpldkfbglfcidaaDoor
set_option linter.unusedVariables false
set_option linter.unusedSimpArgs false
open Go.RowKit

theorem byte_eq (c : UInt8) (n : Nat) (h : n < 256) : (c == UInt8.ofNat n) = ((c.toNat : Int) == (n : Int)) := by
  rw [Bool.eq_iff_iff]; simp [← UInt8.toNat_inj]; omega
theorem at_list (s : ByteArray) (k : Nat) (h : k < s.size) : s.data.toList[k]? = some s[k] := by
  rw [List.getElem?_eq_getElem (by simpa using h)]; rfl
theorem all_take_succ {l : List UInt8} {p : UInt8 → Bool} {k : Nat} {c : UInt8} (h : l[k]? = some c) : (l.take (k + 1)).all p = ((l.take k).all p && p c) := by
  rw [List.take_add_one, h]; simp
def sgOk (c : UInt8) : Bool := c == 45 || (c == 43 || c == 48)
def sgValid (l : List UInt8) : Bool := l.all sgOk && decide (l.length ≤ 80)
/-- The pulses, as the program's text has them. -/
def pul : ByteArray := ⟨#[45, 43, 48]⟩
theorem pul_has (c : UInt8) : pul.data.toList.contains c = sgOk c := by
  simp [pul, sgOk, List.contains, List.elem]
  cases c == 45 <;> cases c == 43 <;> cases c == 48 <;> rfl
set_option maxRecDepth 100000 in
theorem specSv (s : ByteArray) (hs : s.size ≤ maxLen) (w : World) :
    Calls Tryd.prog 16 #[.string s] w fun e w' => e = .returned (.bool (sgValid s.data.toList)) ∧ w = w' := by
  unfold maxLen at hs
  obtain ⟨R, hR⟩ : ∃ R, R = sgValid s.data.toList := ⟨_, rfl⟩
  rw [← hR]
  have HR := Lib.hid hR
  clear hR
  have hbad : Hid (∀ (k : Nat) (h : k < s.size), sgOk s[k] = false → R = false) := fun k h hc => by
    rw [HR.out]
    have hf : s.data.toList.all sgOk = false := by
      rw [List.all_eq_false]
      exact ⟨s[k], List.mem_of_getElem? (at_list s k h), by rw [hc]; simp⟩
    rw [sgValid, hf]; rfl
  go_enter Tryd.func16, Tryd.ntmps16
  go_wp2
  go_loop [3] (fun v => ∃ k : Nat, k ≤ s.size ∧ v = .int .i64 k ∧ Hid ((s.data.toList.take k).all sgOk = true)) (fun v => s.size - (intOf v).toNat)
  case atStart => exact ⟨0, by omega, rfl, by simp [Hid]⟩
  case round =>
    obtain ⟨k, hk, rfl, hall⟩ := hrel
    by_cases hlt : k < s.size
    · have hc := Lib.hid (at_list s k hlt)
      obtain ⟨c, hce⟩ : ∃ c, c = s[k] := ⟨_, rfl⟩
      have e1 := byte_eq c 45 (by omega)
      have e2 := byte_eq c 43 (by omega)
      have e3 := byte_eq c 48 (by omega)
      have hb := Lib.hid (hbad.out k hlt)
      rw [hce] at e1 e2 e3
      have Hn : Hid (sgOk s[k] = (((s[k].toNat : Int) == 45) || (((s[k].toNat : Int) == 43) || ((s[k].toNat : Int) == 48)))) := by
        show _ = _
        unfold sgOk
        rw [show (45 : UInt8) = UInt8.ofNat 45 from rfl, show (43 : UInt8) = UInt8.ofNat 43 from rfl, show (48 : UInt8) = UInt8.ofNat 48 from rfl, e1, e2, e3]; rfl
      clear e1 e2 e3 hce
      have hnext : Hid (sgOk s[k] = true → (s.data.toList.take (k + 1)).all sgOk = true) := fun h => by rw [all_take_succ hc.out, hall.out, h]; rfl
      by_cases h1 : (s[k].toNat : Int) = 45
      · have t1 := bT h1
        have n1 := nF h1
        have hok := Lib.hid (hnext.out (by rw [Hn.out, t1]; rfl))
        clear h1
        go_wp2
        go_round
        case rel => exact ⟨k + 1, by omega, by go_num, hok⟩
        case measure => simp [intOf]; omega
      · have t1 := bF h1
        have n1 := nT h1
        by_cases h2 : (s[k].toNat : Int) = 43
        · have t2 := bT h2
          have n2 := nF h2
          have hok := Lib.hid (hnext.out (by rw [Hn.out, t1, t2]; rfl))
          clear h1 h2
          go_wp2
          go_round
          case rel => exact ⟨k + 1, by omega, by go_num, hok⟩
          case measure => simp [intOf]; omega
        · have t2 := bF h2
          have n2 := nT h2
          by_cases h3 : (s[k].toNat : Int) = 48
          · have t3 := bT h3
            have n3 := nF h3
            have hok := Lib.hid (hnext.out (by rw [Hn.out, t1, t2, t3]; rfl))
            clear h1 h2 h3
            go_wp2
            go_round
            case rel => exact ⟨k + 1, by omega, by go_num, hok⟩
            case measure => simp [intOf]; omega
          · have t3 := bF h3
            have n3 := nT h3
            have hR := Lib.hid (hb.out (by rw [Hn.out, t1, t2, t3]; rfl))
            clear h1 h2 h3
            go_wp2
            go_ret
            exact ⟨ret_bool hR.out.symm, rfl⟩
    · obtain rfl : k = s.size := by omega
      have hRd : Hid (R = decide (s.size ≤ 80)) := by
        show _ = _
        have := hall.out
        rw [List.take_of_length_le (by simp)] at this
        rw [HR.out, sgValid, this]
        simp
      go_wp2
      go_ret
      refine ⟨ret_bool ?_, rfl⟩
      rw [hRd.out]
      exact decide_eq_decide.2 (by omega)
end Go.Proofs.YtpldkfbglfcidaaDoor
