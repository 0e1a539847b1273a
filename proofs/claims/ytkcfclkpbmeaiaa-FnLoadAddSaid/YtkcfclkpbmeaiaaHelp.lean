/- The laws' own helpers on lists of numbers. -/
import Derived.Test.YtkcfclkpbmeaiaaIm
namespace Go.Proofs.Ytkcfclkpbmeaiaa
set_option linter.unusedVariables false
set_option linter.unusedSimpArgs false
open Go.RowKit
theorem sameInts_same (A A' : Option Addr) (c c' lo lo' hi hi' : Nat) (xs : List Int) (hn : xs.length ≤ 1048576) (w : World) (h : Iv w lo hi A xs) (h' : Iv w lo' hi' A' xs) :
    Calls Try.prog 29 #[.slice A xs.length c, .slice A' xs.length c'] w fun e w' => e = .returned (.bool true) ∧ Below w.heap.size w w' := by
  obtain ⟨n, hnl⟩ : ∃ n, n = xs.length := ⟨_, rfl⟩
  have Hn := Lib.hid hnl
  rw [← hnl] at hn ⊢
  clear hnl
  go_enter Try.func29, Try.ntmps29
  go_wp2_with fail
  go_loopw [5] (fun i wr => ∃ k q : Nat, k ≤ n ∧ i = .int .i64 k ∧ wr = w.drewN q) (fun i _ => n - (intOf i).toNat)
  case atStart => exact ⟨0, 0, by omega, rfl, rfl⟩
  case round =>
    obtain ⟨k, q, hk, rfl, rfl⟩ := hrel
    by_cases hlt : k < n
    · obtain ⟨b, off, rfl, _, hb, hc⟩ := h (by rw [← Hn.out]; omega)
      obtain ⟨b', off', rfl, _, hb', hc'⟩ := h' (by rw [← Hn.out]; omega)
      obtain ⟨x, hx⟩ : ∃ x, xs[k]? = some x := ⟨xs[k]'(by rw [← Hn.out]; exact hlt), List.getElem?_eq_getElem _⟩
      have d1 := hc k x hx
      have d2 := hc' k x hx
      clear hc hc' hx
      go_wp2_with fail
      go_quiet (fail)
      go_wp2_with fail
      go_roundw
      case rel => exact ⟨k + 1, _, by omega, by go_num, by first | rfl | exact World.drewN_drewN _ _ _ | trivial⟩
      case measure => simp [intOf]; omega
    · obtain rfl : k = n := by omega
      go_wp2_with fail
      go_ret
      exact ⟨rfl, below_drewN (Below.refl _ _) _⟩
theorem hasInt_any (A : Option Addr) (c lo hi : Nat) (xs : List Int) (x : Int) (hn : xs.length ≤ 1048576) (w : World) (h : Iv w lo hi A xs) :
    Calls Try.prog 47 #[.slice A xs.length c, .int .i64 x] w fun e w' => e = .returned (.bool (decide (x ∈ xs))) ∧ ∃ d, w' = w.drewN d := by
  obtain ⟨n, hnl⟩ : ∃ n, n = xs.length := ⟨_, rfl⟩
  have Hn := Lib.hid hnl
  rw [← hnl] at hn ⊢
  have Hall : Hid ((∀ j y, j < n → xs[j]? = some y → y ≠ x) → decide (x ∈ xs) = false) := fun h => by
    rw [decide_eq_false_iff_not]
    intro hm
    obtain ⟨j, hj⟩ := List.mem_iff_getElem?.1 hm
    exact h j x (by rw [Hn.out]; exact (List.getElem?_eq_some_iff.1 hj).1) hj rfl
  have Hin : Hid (∀ j, xs[j]? = some x → decide (x ∈ xs) = true) := fun j hj => decide_eq_true (List.mem_of_getElem? hj)
  obtain ⟨R, hR⟩ : ∃ R, R = decide (x ∈ xs) := ⟨_, rfl⟩
  rw [← hR] at Hall Hin ⊢
  clear hnl hR
  go_enter Try.func47, Try.ntmps47
  go_wp2_with fail
  go_loopw [5] (fun i wr => ∃ k q : Nat, k ≤ n ∧ i = .int .i64 k ∧ Hid (∀ j y, j < k → xs[j]? = some y → y ≠ x) ∧ wr = w.drewN q) (fun i _ => n - (intOf i).toNat)
  case atStart => exact ⟨0, 0, by omega, rfl, (fun j y hj => by omega), rfl⟩
  case round =>
    obtain ⟨k, q, hk, rfl, hno, rfl⟩ := hrel
    by_cases hlt : k < n
    · obtain ⟨b, off, rfl, _, hb, hc⟩ := h (by rw [← Hn.out]; omega)
      obtain ⟨y, hy⟩ : ∃ y, xs[k]? = some y := ⟨xs[k]'(by rw [← Hn.out]; exact hlt), List.getElem?_eq_getElem _⟩
      have d1 := hc k y hy
      by_cases hyx : y = x
      · subst hyx
        have HRt := Hin.out k hy
        have t0 := bT (rfl : y = y)
        clear hc hy
        go_wp2_with fail
        go_ret
        exact ⟨ret_bool HRt.symm, _, rfl⟩
      · have t0 := bF hyx
        have hno' : Hid (∀ j y, j < k + 1 → xs[j]? = some y → y ≠ x) := fun j z hj hz => by
          rcases (by omega : j < k ∨ j = k) with h1 | rfl
          · exact hno.out j z h1 hz
          · rw [hy] at hz; injection hz with hz; subst hz; exact hyx
        clear hc hy hno hyx
        go_wp2_with fail
        go_roundw
        case rel => exact ⟨k + 1, _, by omega, by go_num, hno', by first | rfl | exact World.drewN_drewN _ _ _ | trivial⟩
        case measure => simp [intOf]; omega
    · obtain rfl : k = n := by omega
      have HRf := Hall.out hno.out
      clear hno
      go_wp2_with fail
      go_ret
      exact ⟨ret_bool HRf.symm, _, rfl⟩
end Go.Proofs.Ytkcfclkpbmeaiaa
