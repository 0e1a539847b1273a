/- Plain Lean functions and lemmas for the signals: nothing of the program in sight. -/
import Derived.WalkKit
import Derived.Lib.Hide
import Derived.Laws.BitsAllLaws
import Derived.Laws.BitsLemmas
import Derived.Test.YtpldkfbglfcidaaDoorMem
namespace Go.Proofs.YtpldkfbglfcidaaDoor
set_option linter.unusedVariables false
set_option linter.unusedSimpArgs false

/-- The codes: halve the number, put a pulse ahead. -/
def cg : Nat → Nat → List UInt8 → List UInt8
  | 0, _, out => out
  | f + 1, n, out => if 1 < n then cg f (n / 2) ((if n % 2 = 1 then 43 else 45) :: out) else out

theorem cg_stop (f n : Nat) (l : List UInt8) (h : ¬ 1 < n) : cg f n l = l := by
  cases f <;> simp [cg, h]
theorem cg_go (f n : Nat) (l : List UInt8) (h : 1 < n) (hf : n < 2 ^ f) : ∃ g, f = g + 1 ∧ n / 2 < 2 ^ g ∧ cg f n l = cg g (n / 2) ((if n % 2 = 1 then 43 else 45) :: l) := by
  cases f with
  | zero => simp at hf; omega
  | succ g => exact ⟨g, rfl, by rw [Nat.pow_succ] at hf; omega, by rw [cg, if_pos h]⟩
theorem cg_cut (n : Nat) (l : List UInt8) (c : ByteArray) (h0 : c.data.toList.getD 0 0 = 45) (h1 : c.data.toList.getD 1 0 = 43) (hs : 2 ≤ c.size) :
    c.extract (n % 2) (n % 2 + 1) ++ ⟨l.toArray⟩ = (⟨((if n % 2 = 1 then (43 : UInt8) else 45) :: l).toArray⟩ : ByteArray) := by
  obtain ⟨⟨d⟩⟩ := c
  match d, hs with
  | x :: y :: r, _ =>
    simp at h0 h1
    subst h0 h1
    apply ByteArray.ext
    rcases Nat.mod_two_eq_zero_or_one n with e | e <;> simp [e, ByteArray.data_append, ByteArray.data_extract]
theorem ofInt_i64p (a : Nat) (ha : a < 9223372036854775808) : (BitVec.ofInt 64 (a : Int)).toNat = a := by
  rw [BitVec.ofInt_natCast, BitVec.toNat_ofNat]; exact Nat.mod_eq_of_lt (by omega)
theorem i64_and_natp (a b : Nat) (ha : a < 9223372036854775808) (hb : b < 9223372036854775808) : bits .and .i64 (a : Int) (b : Int) = ((a &&& b : Nat) : Int) := by
  have hx : a &&& b < 2 ^ 63 := Nat.and_lt_two_pow _ (by omega)
  show IntKind.i64.wrap ((BitVec.ofInt 64 (a : Int) &&& BitVec.ofInt 64 (b : Int)).toNat : Int) = _
  rw [BitVec.toNat_and, ofInt_i64p a ha, ofInt_i64p b hb, IntKind.wrap_i64]
  omega
theorem and_one_i64 (n : Nat) (h : n < 9223372036854775808) : bits .and .i64 (n : Int) 1 = (n : Int) % 2 := by
  have := i64_and_natp n 1 h (by omega)
  rw [show ((1 : Nat) : Int) = 1 from rfl, Nat.and_one_is_mod] at this
  rw [this]; omega
/-- The code of the letter with the byte c. -/
def codeB (c : Nat) : List UInt8 := cg 5 (c - 97 + 2) []
/-- What SignalCode gives. -/
def codeS (s : ByteArray) : List UInt8 :=
  if h : s.size = 1 then if 97 ≤ (s[0]).toNat ∧ (s[0]).toNat ≤ 122 then codeB (s[0]).toNat else [] else []
theorem codeS_one (s : ByteArray) (h : s.size = 1) (h1 : 97 ≤ (s[0]).toNat) (h2 : (s[0]).toNat ≤ 122) : codeS s = codeB (s[0]).toNat := by
  unfold codeS; rw [dif_pos h, if_pos ⟨h1, h2⟩]
theorem codeS_off (s : ByteArray) (h : s.size = 1) (h1 : ¬ (97 ≤ (s[0]).toNat ∧ (s[0]).toNat ≤ 122)) : codeS s = [] := by
  unfold codeS; rw [dif_pos h, if_neg h1]
theorem codeS_not (s : ByteArray) (h : ¬ s.size = 1) : codeS s = [] := by
  unfold codeS; rw [dif_neg h]
end Go.Proofs.YtpldkfbglfcidaaDoor
