/- The laws' own helpers on lists of numbers. -/
import Derived.Test.YtglncadfmomamaaIm
namespace Go.Proofs.Ytglncadfmomamaa
set_option linter.unusedVariables false
set_option linter.unusedSimpArgs false
open Go.RowKit
theorem sameInts_same (A A' : Option Addr) (c c' lo lo' hi hi' : Nat) (xs : List Int) (hn : xs.length ≤ 1048576) (w : World) (h : Iv w lo hi A xs) (h' : Iv w lo' hi' A' xs) :
    Calls Try.prog 26 #[.slice A xs.length c, .slice A' xs.length c'] w fun e w' => e = .returned (.bool true) ∧ Below w.heap.size w w' := by
  obtain ⟨n, hnl⟩ : ∃ n, n = xs.length := ⟨_, rfl⟩
  have Hn := Lib.hid hnl
  rw [← hnl] at hn ⊢
  clear hnl
  go_enter Try.func26, Try.ntmps26
  go_wp2_with fail
  go_loopw [5] (fun i wr => ∃ k q : Nat, k ≤ n ∧ i = .int .i64 k ∧ wr = w.drewN q) (fun i _ => n - (intOf i).toNat)
  case atStart => exact ⟨0, 0, by omega, rfl, rfl⟩
  case round =>
    obtain ⟨k, q, hk, rfl, rfl⟩ := hrel
    by_cases hlt : k < n
    · obtain ⟨b, off, rfl, _, hb, hc⟩ := h (by rw [← Hn.out]; omega)
      obtain ⟨b', off', rfl, _, hb', hc'⟩ := h' (by rw [← Hn.out]; omega)
      obtain ⟨x, hx⟩ : ∃ x, xs[k]? = some x := ⟨xs[k]'(by rw [← Hn.out]; exact hlt), List.getElem?_eq_getElem _⟩
      have d1 := hc k x hx
      have d2 := hc' k x hx
      clear hc hc' hx
      go_wp2_with fail
      go_quiet (fail)
      go_wp2_with fail
      go_roundw
      case rel => exact ⟨k + 1, _, by omega, by go_num, by first | rfl | exact World.drewN_drewN _ _ _ | trivial⟩
      case measure => simp [intOf]; omega
    · obtain rfl : k = n := by omega
      go_wp2_with fail
      go_ret
      exact ⟨rfl, below_drewN (Below.refl _ _) _⟩
end Go.Proofs.Ytglncadfmomamaa
