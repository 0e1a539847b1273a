/- The law FnExactSignalLetters, walked. -/
import Derived.Test.YtjikkadmfgphfaaLetters
namespace Go.Proofs.Ytjikkadmfgphfaa
set_option linter.unusedVariables false
set_option linter.unusedSimpArgs false
open Go.RowKit
theorem specLetters_off (n : Int) (h : ¬ (1 ≤ n ∧ n ≤ 16)) (w : World) :
    Calls Try.prog 8 #[.int .i64 n] w fun e w' => e = .returned (.int .i64 (-1)) ∧ w = w' := by
  go_enter Try.func8, Try.ntmps8
  go_wp2_with (first | (go_at_call 14; refine (l6In_no _ _ _ h _).mono ?_; rintro e w' ⟨rfl, rfl⟩))
  go_ret
  exact ⟨rfl, rfl⟩
theorem implLetters_off (n : Int) (h : ¬ (1 ≤ n ∧ n ≤ 16)) (w : World) :
    Calls Try.prog 9 #[.int .i64 n] w fun e w' => e = .returned (.int .i64 (-1)) ∧ w = w' := by
  go_enter Try.func9, Try.ntmps9
  go_wp2_with (first | (go_at_call 15; refine (within_no _ _ _ h _).mono ?_; rintro e w' ⟨rfl, rfl⟩))
  go_ret
  exact ⟨rfl, rfl⟩
/-- What SignalLetters gives. -/
def lettersI (n : Int) : Int := if 1 ≤ n ∧ n ≤ 16 then lettersW n.toNat else -1
theorem specLettersI (n : Int) (w : World) :
    Calls Try.prog 8 #[.int .i64 n] w fun e w' => e = .returned (.int .i64 (lettersI n)) ∧ Below w.heap.size w w' := by
  by_cases h : 1 ≤ n ∧ n ≤ 16
  · obtain ⟨k, rfl⟩ := Int.eq_ofNat_of_zero_le (show 0 ≤ n by omega)
    unfold lettersI; rw [if_pos h]
    exact specLetters k (by omega) (by omega) w
  · unfold lettersI; rw [if_neg h]
    exact (specLetters_off n h w).mono fun _ _ ⟨he, hw⟩ => ⟨he, hw ▸ Below.refl _ _⟩
theorem implLettersI (n : Int) (w : World) :
    Calls Try.prog 9 #[.int .i64 n] w fun e w' => e = .returned (.int .i64 (lettersI n)) ∧ Below w.heap.size w w' := by
  by_cases h : 1 ≤ n ∧ n ≤ 16
  · obtain ⟨k, rfl⟩ := Int.eq_ofNat_of_zero_le (show 0 ≤ n by omega)
    unfold lettersI; rw [if_pos h]
    exact implLetters k (by omega) (by omega) w
  · unfold lettersI; rw [if_neg h]
    exact (implLetters_off n h w).mono fun _ _ ⟨he, hw⟩ => ⟨he, hw ▸ Below.refl _ _⟩
theorem walk_SignalLetters (a0 : Int) (w0 : (Lit.int .i64 a0).wf = true) (w : World) :
    Calls Try.prog 4 #[.int .i64 a0] w fun e w' => e = .returned (.bool true) ∧ Below w.heap.size w w' := by
  go_enter Try.func4, Try.ntmps4
  go_wp2_with (first | (go_at_call 8; refine (specLettersI _ _).mono ?_; rintro e w1 ⟨rfl, hb1⟩) | (go_at_call 9; refine (implLettersI _ _).mono ?_; rintro e w2 ⟨rfl, hb2⟩))
  go_ret
  exact ⟨rfl, hb1.trans (hb2.mono hb1.size)⟩
end Go.Proofs.Ytjikkadmfgphfaa
