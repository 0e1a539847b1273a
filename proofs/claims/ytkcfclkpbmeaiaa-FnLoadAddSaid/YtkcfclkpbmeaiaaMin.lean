/- slices.Min and slices.Index on numbers, walked. -/
import Derived.Test.YtkcfclkpbmeaiaaLess
namespace Go.Proofs.Ytkcfclkpbmeaiaa
set_option linter.unusedVariables false
set_option linter.unusedSimpArgs false
open Go.RowKit
def atI (xs : List Int) (i : Nat) : Int := xs.getD i 0
/-- The first place of the least of the first k numbers. -/
def bestAt (xs : List Int) : Nat → Nat
  | 0 => 0
  | k + 1 => if atI xs k < atI xs (bestAt xs k) then k else bestAt xs k
theorem bestAt_one (xs : List Int) : bestAt xs 1 = 0 := by simp [bestAt]
theorem best_spec (xs : List Int) (k : Nat) (hk : 1 ≤ k) : bestAt xs k < k ∧ (∀ i, i < k → atI xs (bestAt xs k) ≤ atI xs i) ∧ ∀ i, i < bestAt xs k → atI xs (bestAt xs k) < atI xs i := by
  induction k with
  | zero => omega
  | succ k ih =>
    by_cases h0 : k = 0
    · subst h0
      rw [show 0 + 1 = 1 from rfl, bestAt_one]
      refine ⟨by omega, fun i hi => ?_, fun i hi => by omega⟩
      obtain rfl : i = 0 := by omega
      exact Int.le_refl _
    · obtain ⟨h1, h2, h3⟩ := ih (by omega)
      rw [bestAt]
      by_cases hlt : atI xs k < atI xs (bestAt xs k)
      · rw [if_pos hlt]
        refine ⟨by omega, fun i hi => ?_, fun i hi => ?_⟩
        · rcases (by omega : i < k ∨ i = k) with h | rfl
          · have := h2 i h; omega
          · exact Int.le_refl _
        · have := h2 i hi; omega
      · rw [if_neg hlt]
        refine ⟨by omega, fun i hi => ?_, h3⟩
        rcases (by omega : i < k ∨ i = k) with h | rfl
        · exact h2 i h
        · omega
theorem best_min (xs : List Int) (k : Nat) : (if atI xs k < atI xs (bestAt xs k) then atI xs k else atI xs (bestAt xs k)) = atI xs (bestAt xs (k + 1)) := by
  rw [bestAt]
  split <;> rfl
set_option maxRecDepth 100000 in
theorem iMin (A : Option Addr) (c lo hi : Nat) (xs : List Int) (h1 : 1 ≤ xs.length) (h2 : xs.length ≤ 100000) (w : World) (hA : Iv w lo hi A xs) :
    Calls Try.prog 71 #[.slice A xs.length c] w fun e w' => e = .returned (.int .i64 (atI xs (bestAt xs xs.length))) ∧ Below w.heap.size w w' := by
  obtain ⟨b, off, rfl, _, _, hc⟩ := hA (by omega)
  have Hget : Hid (∀ i, i < xs.length → w.cell? ⟨b, off + i, none⟩ = some (.int .i64 (atI xs i))) := fun i hi => hc i _ (getD_int hi)
  have HMin := Lib.hid (best_min xs)
  have h0 : Hid (bestAt xs 1 = 0) := bestAt_one xs
  obtain ⟨m, hm⟩ : ∃ m, m = xs.length := ⟨_, rfl⟩
  rw [← hm] at h1 h2 Hget ⊢
  have c0 := Hget.out 0 (by omega)
  rw [Nat.add_zero] at c0
  clear hm hc
  go_enter Try.func71, Try.ntmps71
  go_wp2_with fail
  go_loopw [3, 4] (fun v i wr => ∃ k : Nat, 1 ≤ k ∧ k ≤ m ∧ i = .int .i64 k ∧ v = .int .i64 (atI xs (bestAt xs k)) ∧ Below w.heap.size w wr) (fun _ i _ => m - (intOf i).toNat)
  case atStart => exact ⟨1, by omega, by omega, rfl, by rw [h0.out], Below.refl _ _⟩
  case round =>
    obtain ⟨k, hk1, hk, rfl, rfl, hbel⟩ := hrel
    by_cases hkm : k < m
    · have hbB : b < w.heap.size := by
        rcases Nat.lt_or_ge b w.heap.size with h | h
        · exact h
        · exfalso; have := Hget.out 0 (by omega); simp [World.cell?, Array.getElem?_eq_none h] at this
      have ck := (hbel.cell (p := ⟨b, _, none⟩) hbB).trans (Hget.out k hkm)
      have hmin := HMin.out k
      obtain ⟨x, hx⟩ : ∃ x, x = atI xs k := ⟨_, rfl⟩
      obtain ⟨y, hy⟩ : ∃ y, y = atI xs (bestAt xs k) := ⟨_, rfl⟩
      rw [← hx] at ck hmin
      rw [← hy] at hmin ⊢
      replace hmin := Lib.hid hmin
      clear hx hy
      go_wp2_with fail
      go_roundw
      case rel => exact ⟨k + 1, by omega, by omega, by go_num, by rw [← hmin.out], hbel⟩
      case measure => simp [intOf]; omega
    · obtain rfl : k = m := by omega
      go_wp2_with fail
      go_ret
      exact ⟨rfl, hbel⟩
set_option maxRecDepth 100000 in
theorem iIndex (A : Option Addr) (c lo hi : Nat) (xs : List Int) (y : Int) (j : Nat) (h1 : j < xs.length) (h2 : xs.length ≤ 100000) (hj : atI xs j = y) (hno : ∀ i, i < j → atI xs i ≠ y) (w : World) (hA : Iv w lo hi A xs) :
    Calls Try.prog 70 #[.slice A xs.length c, .int .i64 y] w fun e w' => e = .returned (.int .i64 j) ∧ Below w.heap.size w w' := by
  obtain ⟨b, off, rfl, _, _, hc⟩ := hA (by omega)
  have Hget : Hid (∀ i, i < xs.length → w.cell? ⟨b, off + i, none⟩ = some (.int .i64 (atI xs i))) := fun i hi => hc i _ (getD_int hi)
  have Hno := Lib.hid hno
  have Hj := Lib.hid hj
  have hbB : b < w.heap.size := by
    rcases Nat.lt_or_ge b w.heap.size with h | h
    · exact h
    · exfalso; have := Hget.out 0 (by omega); simp [World.cell?, Array.getElem?_eq_none h] at this
  obtain ⟨m, hm⟩ : ∃ m, m = xs.length := ⟨_, rfl⟩
  rw [← hm] at h1 h2 Hget ⊢
  clear hm hc hno hj
  go_enter Try.func70, Try.ntmps70
  go_wp2_with fail
  go_loopw [5, 8] (fun _ i wr => ∃ k : Nat, k ≤ j ∧ i = .int .i64 k ∧ Below w.heap.size w wr) (fun _ i _ => j - (intOf i).toNat)
  case atStart => exact ⟨0, by omega, rfl, Below.refl _ _⟩
  case round =>
    obtain ⟨k, hk, rfl, hbel⟩ := hrel
    have hkm : k < m := by omega
    have ck := (hbel.cell (p := ⟨b, _, none⟩) hbB).trans (Hget.out k hkm)
    have hn := Hno.out k
    obtain ⟨x, hx⟩ : ∃ x, x = atI xs k := ⟨_, rfl⟩
    rw [← hx] at ck hn
    by_cases hkj : k < j
    · have hxy := hn hkj
      have t1 : (y == x) = false := bF (fun h => hxy h.symm)
      clear hn hxy hx
      go_wp2_with fail
      go_roundw
      case rel => exact ⟨k + 1, by omega, by go_num, hbel⟩
      case measure => simp [intOf]; omega
    · obtain rfl : k = j := by omega
      have hxy : y = x := by rw [hx, Hj.out]
      have t1 : (y == x) = true := bT hxy
      clear hn hxy hx
      go_wp2_with fail
      go_ret
      exact ⟨rfl, hbel⟩
end Go.Proofs.Ytkcfclkpbmeaiaa
