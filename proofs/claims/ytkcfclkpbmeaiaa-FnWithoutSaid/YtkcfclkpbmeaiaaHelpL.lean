/- The laws' own helper on two lists of lines. -/
import Derived.Test.YtkcfclkpbmeaiaaLn
namespace Go.Proofs.Ytkcfclkpbmeaiaa
set_option linter.unusedVariables false
set_option linter.unusedSimpArgs false
open Go.RowKit
set_option maxRecDepth 100000 in
theorem sameLines_same (A A' : Option Addr) (c c' : Nat) (L : List Ln) (hn : L.length ≤ 1048576) (w : World) (hL : Lns w w.heap.size A L) (hL' : Lns w w.heap.size A' L) :
    Calls Try.prog 21 #[.slice A L.length c, .slice A' L.length c'] w fun e w' => e = .returned (.bool true) ∧ Below w.heap.size w w' := by
  obtain ⟨n, hnl⟩ : ∃ n, n = L.length := ⟨_, rfl⟩
  have Hn := Lib.hid hnl
  rw [← hnl] at hn ⊢
  clear hnl
  go_enter Try.func21, Try.ntmps21
  go_wp2_with fail
  go_loopw [5] (fun i wr => ∃ k q : Nat, k ≤ n ∧ i = .int .i64 k ∧ wr = w.drewN q) (fun i _ => n - (intOf i).toNat)
  case atStart => exact ⟨0, 0, by omega, rfl, rfl⟩
  case round =>
    obtain ⟨k, q, hk, rfl, rfl⟩ := hrel
    by_cases hlt : k < n
    · obtain ⟨b, off, rfl, hb, hc⟩ := hL (by rw [← Hn.out]; omega)
      obtain ⟨b', off', rfl, hb', hc'⟩ := hL' (by rw [← Hn.out]; omega)
      obtain ⟨l, hl⟩ : ∃ l, L[k]? = some l := ⟨L[k]'(by rw [← Hn.out]; exact hlt), List.getElem?_eq_getElem _⟩
      obtain ⟨c1, c2, c3⟩ := hc k l hl
      obtain ⟨c1', c2', c3'⟩ := hc' k l hl
      clear hc hc' hl
      go_wp2_with fail
      go_quiet (fail)
      go_wp2_with fail
      go_roundw
      case rel => exact ⟨k + 1, _, by omega, by go_num, by first | rfl | exact World.drewN_drewN _ _ _ | trivial⟩
      case measure => simp [intOf]; omega
    · obtain rfl : k = n := by omega
      go_wp2_with fail
      go_ret
      exact ⟨rfl, below_drewN (Below.refl _ _) _⟩
end Go.Proofs.Ytkcfclkpbmeaiaa
