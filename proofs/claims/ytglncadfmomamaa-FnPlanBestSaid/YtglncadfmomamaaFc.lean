/- Plain Lean functions and laws on forecasts: nothing of the program in sight. -/
import Derived.WalkKit
import Derived.Lib.Hide
import Derived.Laws.BitsAllLaws
import Derived.Laws.BitsLemmas
namespace Go.Proofs.Ytglncadfmomamaa
set_option linter.unusedVariables false
set_option linter.unusedSimpArgs false


theorem ofInt_u32 (a : Nat) (ha : a < 4294967296) : (BitVec.ofInt 32 (a : Int)).toNat = a := by
  rw [BitVec.ofInt_natCast, BitVec.toNat_ofNat]; exact Nat.mod_eq_of_lt (by omega)
theorem u32_and_nat (a b : Nat) (ha : a < 4294967296) (hb : b < 4294967296) : bits .and .u32 (a : Int) (b : Int) = ((a &&& b : Nat) : Int) := by
  have hx : a &&& b < 2 ^ 32 := Nat.and_lt_two_pow _ (by omega)
  show IntKind.u32.wrap ((BitVec.ofInt 32 (a : Int) &&& BitVec.ofInt 32 (b : Int)).toNat : Int) = _
  rw [BitVec.toNat_and, ofInt_u32 a ha, ofInt_u32 b hb, IntKind.wrap_u32]
  omega
theorem u32_or_nat (a b : Nat) (ha : a < 4294967296) (hb : b < 4294967296) : bits .or .u32 (a : Int) (b : Int) = ((a ||| b : Nat) : Int) := by
  have hx : a ||| b < 2 ^ 32 := Nat.or_lt_two_pow (by omega) (by omega)
  show IntKind.u32.wrap ((BitVec.ofInt 32 (a : Int) ||| BitVec.ofInt 32 (b : Int)).toNat : Int) = _
  rw [BitVec.toNat_or, ofInt_u32 a ha, ofInt_u32 b hb, IntKind.wrap_u32]
  omega
theorem u32_and_255 (a : Nat) (ha : a < 4294967296) : bits .and .u32 (a : Int) 255 = (a : Int) % 256 := by
  have := u32_and_nat a 255 ha (by omega)
  rw [show (255 : Nat) = 2 ^ 8 - 1 from rfl, Nat.and_two_pow_sub_one_eq_mod] at this
  rw [show (255 : Int) = ((2 ^ 8 - 1 : Nat) : Int) from rfl, this]; omega
/-- The sum of the lowest n bits. -/
def bc : Nat → Nat → Nat
  | 0, _ => 0
  | n + 1, x => x % 2 + bc n (x / 2)
theorem bc_add (m n x : Nat) : bc (m + n) x = bc m x + bc n (x / 2 ^ m) := by
  induction m generalizing x with
  | zero => simp [bc]
  | succ m ih =>
    rw [show m + 1 + n = (m + n) + 1 by omega, bc, bc, ih, Nat.div_div_eq_div_mul, ← Nat.pow_succ', Nat.add_assoc]
theorem bc_mod (n x k : Nat) (h : n ≤ k) : bc n (x % 2 ^ k) = bc n x := by
  induction n generalizing x k with
  | zero => rfl
  | succ n ih =>
    obtain ⟨k, rfl⟩ : ∃ j, k = j + 1 := ⟨k - 1, by omega⟩
    rw [bc, bc]
    have e1 : x % 2 ^ (k + 1) % 2 = x % 2 := by rw [Nat.pow_succ', Nat.mod_mul_right_mod]
    have e2 : x % 2 ^ (k + 1) / 2 = (x / 2) % 2 ^ k := by rw [Nat.pow_succ', Nat.mod_mul_right_div_self]
    rw [e1, e2, ih _ _ (by omega)]
theorem bc_zero (n : Nat) : bc n 0 = 0 := by induction n with | zero => rfl | succ n ih => rw [bc]; simpa using ih
theorem bc_le (n x : Nat) : bc n x ≤ n := by
  induction n generalizing x with
  | zero => exact Nat.le_refl _
  | succ n ih => rw [bc]; have := ih (x / 2); omega

/-- The number of open days in a list. -/
def cntO (l : List UInt8) : Nat := l.countP (· == 111)
/-- The bits of open days. -/
def maskL : List UInt8 → Nat
  | [] => 0
  | c :: l => (if c == 111 then 1 else 0) + 2 * maskL l
theorem maskL_lt (l : List UInt8) : maskL l < 2 ^ l.length := by
  induction l with
  | nil => simp [maskL]
  | cons c l ih => rw [maskL, List.length_cons, Nat.pow_succ]; split <;> omega
theorem maskL_snoc (l : List UInt8) (c : UInt8) : maskL (l ++ [c]) = maskL l + (if c == 111 then 2 ^ l.length else 0) := by
  induction l with
  | nil => simp [maskL]
  | cons d l ih => rw [List.cons_append, maskL, maskL, ih, List.length_cons, Nat.pow_succ]; split <;> split <;> omega
theorem maskL_take (l : List UInt8) (d : Nat) : maskL l % 2 ^ d = maskL (l.take d) := by
  induction l generalizing d with
  | nil => simp [maskL]
  | cons c l ih =>
    cases d with
    | zero => simp [maskL, Nat.mod_one]
    | succ d =>
      rw [List.take_succ_cons, maskL, maskL, ← ih d, Nat.pow_succ']
      have h := Nat.mod_lt (maskL l) (Nat.two_pow_pos d)
      have e := Nat.div_add_mod (maskL l) (2 ^ d)
      have e2 : (if c == 111 then 1 else 0) + 2 * maskL l = 2 * 2 ^ d * (maskL l / 2 ^ d) + ((if c == 111 then 1 else 0) + 2 * (maskL l % 2 ^ d)) := by
        have : 2 * 2 ^ d * (maskL l / 2 ^ d) = 2 * (2 ^ d * (maskL l / 2 ^ d)) := Nat.mul_assoc _ _ _
        rw [this]; omega
      rw [e2, Nat.mul_add_mod, Nat.mod_eq_of_lt]
      split <;> omega
theorem bc_mask (n : Nat) (l : List UInt8) (h : l.length ≤ n) : bc n (maskL l) = cntO l := by
  induction l generalizing n with
  | nil => simp [maskL, bc_zero, cntO]
  | cons c l ih =>
    obtain ⟨n, rfl⟩ : ∃ m, n = m + 1 := ⟨n - 1, by rw [List.length_cons] at h; omega⟩
    rw [List.length_cons] at h
    rw [bc, maskL]
    have := ih n (by omega)
    unfold cntO at this ⊢
    rw [List.countP_cons, ← this]
    split
    · rw [show (1 + 2 * maskL l) / 2 = maskL l by omega]; omega
    · rw [show (0 + 2 * maskL l) / 2 = maskL l by omega]; omega

/-- Is a text a forecast? -/
def fcOk (l : List UInt8) : Bool := l.all (fun c => c == 111 || c == 120)
def fcValid (l : List UInt8) : Bool := fcOk l && decide (l.length ≤ 30)
/-- Open days ahead of a day. -/
def fcAhead (l : List UInt8) (d : Nat) : Nat := cntO (l.take d)
theorem fcAhead_le (l : List UInt8) (d : Nat) : fcAhead l d ≤ d := by
  unfold fcAhead cntO
  exact Nat.le_trans List.countP_le_length (List.length_take_le _ _)
theorem fcAhead_zero (l : List UInt8) : fcAhead l 0 = 0 := by simp [fcAhead, cntO]
theorem fcAhead_succ (l : List UInt8) (d : Nat) (h : d < l.length) : fcAhead l (d + 1) = fcAhead l d + (if l[d] == 111 then 1 else 0) := by
  unfold fcAhead cntO
  rw [List.take_succ_eq_append_getElem h, List.countP_append]
  simp [List.countP_cons]
theorem fcAhead_mono (l : List UInt8) (d e : Nat) (h : d ≤ e) : fcAhead l d ≤ fcAhead l e := by
  unfold fcAhead cntO
  exact List.Sublist.countP_le (List.take_sublist_take_left h)
theorem fcAhead_past (l : List UInt8) (d : Nat) (h : l.length ≤ d) : fcAhead l d = fcAhead l l.length := by
  unfold fcAhead; rw [List.take_of_length_le h, List.take_length]
theorem bc_ahead (l : List UInt8) (d : Nat) (h : l.length ≤ 32) : bc 32 (maskL l % 2 ^ d) = fcAhead l d := by
  rw [maskL_take, bc_mask _ _ (by rw [List.length_take]; omega)]; rfl
/-- ForecastOpen. -/
def fcOpen (l : List UInt8) (day : Int) : Int := if fcValid l = true ∧ 0 ≤ day ∧ day ≤ l.length then (fcAhead l day.toNat : Int) else -1
/-- The first day ahead of which k days are open. -/
def fcDayN : List UInt8 → Nat → Nat
  | _, 0 => 0
  | [], _ + 1 => 0
  | c :: l, k + 1 => 1 + fcDayN l (if c == 111 then k else k + 1)
/-- ForecastDay. -/
def fcDay (l : List UInt8) (work : Int) : Int := if fcValid l = true ∧ 0 ≤ work ∧ work ≤ fcAhead l l.length then (fcDayN l work.toNat : Int) else -1
theorem fcAhead_cons (c : UInt8) (l : List UInt8) (d : Nat) : fcAhead (c :: l) (d + 1) = (if c == 111 then 1 else 0) + fcAhead l d := by
  unfold fcAhead cntO; rw [List.take_succ_cons, List.countP_cons]; omega
theorem fcDayN_spec (l : List UInt8) (k : Nat) (h : k ≤ fcAhead l l.length) : fcAhead l (fcDayN l k) = k ∧ fcDayN l k ≤ l.length ∧ ∀ d, d < fcDayN l k → fcAhead l d < k := by
  induction l generalizing k with
  | nil =>
    simp [fcAhead, cntO] at h; subst h
    simp [fcDayN, fcAhead, cntO]
  | cons c l ih =>
    cases k with
    | zero => simp [fcDayN, fcAhead, cntO]
    | succ k =>
      rw [List.length_cons, fcAhead_cons] at h
      rw [fcDayN]
      have h2 : (if c == 111 then k else k + 1) ≤ fcAhead l l.length := by split at h <;> rename_i hc <;> simp [hc] <;> omega
      obtain ⟨a, b, d⟩ := ih _ h2
      refine ⟨?_, by rw [List.length_cons]; omega, ?_⟩
      · rw [Nat.add_comm 1, fcAhead_cons, a]; split <;> omega
      · intro e he
        cases e with
        | zero => rw [fcAhead_zero]; omega
        | succ e => rw [fcAhead_cons]; have := d e (by omega); split at this <;> rename_i hc <;> simp [hc] <;> omega
theorem fcDayN_eq (l : List UInt8) (k d : Nat) (h : k ≤ fcAhead l l.length) (h1 : k ≤ fcAhead l d) (h2 : ∀ e, e < d → fcAhead l e < k) : d = fcDayN l k := by
  obtain ⟨a, b, c⟩ := fcDayN_spec l k h
  rcases Nat.lt_trichotomy d (fcDayN l k) with h3 | h3 | h3
  · have := c d h3; omega
  · exact h3
  · have := h2 _ h3; omega
end Go.Proofs.Ytglncadfmomamaa
