/- Plain laws: messages are counted by their pulses. -/
import Derived.Test.YtpldkfbglfcidaaDoorRp
import Derived.Test.YtpldkfbglfcidaaDoorLettersI
namespace Go.Proofs.YtpldkfbglfcidaaDoor
set_option linter.unusedVariables false
set_option linter.unusedSimpArgs false
def digC (k : Nat) : UInt8 := if k = 0 then 45 else if k = 1 then 43 else 48
/-- The first n pulses that a number tells. -/
def digs : Nat → Nat → List UInt8
  | 0, _ => []
  | n + 1, r => digs n r ++ [digC (r / 3 ^ n % 3)]
theorem digs_len (n r : Nat) : (digs n r).length = n := by
  induction n with
  | zero => rfl
  | succ n ih => rw [digs, List.length_append, ih]; rfl
theorem digs_valid (n r : Nat) (h : n ≤ 80) : sgValid (digs n r) = true := by
  have : (digs n r).all sgOk = true := by
    clear h
    induction n with
    | zero => rfl
    | succ n ih =>
      rw [digs, List.all_append, ih]
      have : ∀ k, sgOk (digC k) = true := fun k => by
        unfold digC
        split
        · rfl
        · split <;> rfl
      simp [this]
  unfold sgValid
  rw [this, digs_len, decide_eq_true h]; rfl
/-- How many of the first numbers tell a message. -/
def cntTo (n : Nat) : Nat → Nat
  | 0 => 0
  | s + 1 => cntTo n s + (if rdOk (digs n s) = true then 1 else 0)
theorem cntTo_le (n s : Nat) : cntTo n s ≤ s := by
  induction s with
  | zero => exact Nat.le_refl _
  | succ s ih => rw [cntTo]; split <;> omega
theorem cnt_all : ∀ n : Fin 7, 1 ≤ (n : Nat) → cntTo n (3 ^ (n : Nat)) = lettersW n := by decide +kernel
theorem lettersW_up : ∀ n : Fin 17, 1 ≤ (n : Nat) → 1 ≤ lettersW n ∧ ((n : Nat) < 16 → lettersW n ≤ lettersW (n + 1)) := by decide +kernel
theorem lettersW_big : ∀ n : Fin 17, lettersW n ≤ 1000000000000 := by decide +kernel
end Go.Proofs.YtpldkfbglfcidaaDoor
