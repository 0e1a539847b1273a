/- The walk of SignalCode (the reference's). -/
import Derived.Test.YtpldkfbglfcidaaDoorChecked
import Derived.Test.YtpldkfbglfcidaaDoorPlain
import Derived.WalkLawsBesides
import Derived.WalkSpells
import Derived.Outline
namespace Go.Proofs.YtpldkfbglfcidaaDoor
set_option linter.unusedVariables false
set_option linter.unusedSimpArgs false
open Go.RowKit
theorem code_spec (s : ByteArray) (h : s.size = 1) (h1 : 97 ≤ (s[0]).toNat) (h2 : (s[0]).toNat ≤ 122) (w : World) :
    Calls Tryd.prog 68 #[.string s] w fun e w' => e = .returned (.string ⟨(codeB (s[0]).toNat).toArray⟩) ∧ w = w' := by
  obtain ⟨R, hR⟩ : ∃ R, R = codeB (s[0]).toNat := ⟨_, rfl⟩
  rw [← hR]
  have HR := Lib.hid hR
  clear hR
  go_enter Tryd.func68, Tryd.ntmps68
  go_wp2
  go_loop [3, 4] (fun v o => ∃ (n f : Nat) (l : List UInt8), n ≤ 27 ∧ n < 2 ^ f ∧ l.length + f ≤ 5 ∧ v = .int .i64 n ∧ o = .string ⟨l.toArray⟩ ∧ Hid (R = cg f n l)) (fun v _ => (intOf v).toNat)
  case atStart => exact ⟨s[0].toNat - 97 + 2, 5, [], by omega, by omega, by simp, by go_num, rfl, HR.out⟩
  case round =>
    obtain ⟨n, f, l, hn, hf, hl, rfl, rfl, HR2⟩ := hrel
    by_cases h1 : 1 < n
    · obtain ⟨g, rfl, hg, hc⟩ := cg_go f n l h1 hf
      replace hc := Lib.hid hc
      go_wp2
      go_round
      case rel => exact ⟨n / 2, g, _, by omega, hg, by simp; omega, by go_num, congrArg _ (cg_cut n l _ rfl rfl (by decide)), HR2.out.trans hc.out⟩
      case measure => simp [intOf]; omega
    · go_wp2
      go_ret
      exact ⟨ret_str (by rw [HR2.out, cg_stop _ _ _ h1]), rfl⟩

theorem specCode (s : ByteArray) (w : World) :
    Calls Tryd.prog 68 #[.string s] w fun e w' => e = .returned (.string ⟨(codeS s).toArray⟩) ∧ w = w' := by
  by_cases h : s.size = 1
  · by_cases h1 : 97 ≤ (s[0]).toNat
    · by_cases h2 : (s[0]).toNat ≤ 122
      · rw [codeS_one s h h1 h2]; exact code_spec s h h1 h2 w
      · rw [codeS_off s h (by omega)]
        go_enter Tryd.func68, Tryd.ntmps68
        go_wp2
        go_ret
        exact ⟨rfl, rfl⟩
    · rw [codeS_off s h (by omega)]
      go_enter Tryd.func68, Tryd.ntmps68
      go_wp2
      go_ret
      exact ⟨rfl, rfl⟩
  · rw [codeS_not s h]
    have h' : ((s.size : Int) == 1) = false := by simp; omega
    go_enter Tryd.func68, Tryd.ntmps68
    go_wp2
    go_ret
    exact ⟨rfl, rfl⟩

end Go.Proofs.YtpldkfbglfcidaaDoor
