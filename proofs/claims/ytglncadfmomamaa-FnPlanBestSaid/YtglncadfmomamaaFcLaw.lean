/- Plain laws on forecasts: what the statements ask. -/
import Derived.Test.YtglncadfmomamaaFcI
namespace Go.Proofs.Ytglncadfmomamaa
set_option linter.unusedVariables false
set_option linter.unusedSimpArgs false
theorem fcValid_len {l : List UInt8} (h : fcValid l = true) : l.length ≤ 30 := by
  unfold fcValid at h; simp at h; exact h.2
theorem fcValid_ok {l : List UInt8} (h : fcValid l = true) : fcOk l = true := by
  unfold fcValid at h; simp at h; exact h.1
/-- ForecastDay gives a number: then it is a first day. -/
theorem fcDay_nonneg {l : List UInt8} {k : Int} (h : ¬ fcDay l k < 0) : fcValid l = true ∧ ∃ j : Nat, k = j ∧ j ≤ fcAhead l l.length ∧ fcDay l k = (fcDayN l j : Int) := by
  unfold fcDay at h ⊢
  by_cases hc : fcValid l = true ∧ 0 ≤ k ∧ k ≤ fcAhead l l.length
  · rw [if_pos hc]
    exact ⟨hc.1, k.toNat, by omega, by omega, rfl⟩
  · rw [if_neg hc] at h; omega
theorem fcOpen_nonneg {l : List UInt8} {k : Int} (h : ¬ fcOpen l k < 0) : fcValid l = true ∧ ∃ j : Nat, k = j ∧ j ≤ l.length ∧ fcOpen l k = (fcAhead l j : Int) := by
  unfold fcOpen at h ⊢
  by_cases hc : fcValid l = true ∧ 0 ≤ k ∧ k ≤ l.length
  · rw [if_pos hc]
    exact ⟨hc.1, k.toNat, by omega, by omega, rfl⟩
  · rw [if_neg hc] at h; omega
/-- Work ends on an open day. -/
theorem fcDay_open (l : List UInt8) (k : Nat) (h : k ≤ fcAhead l l.length) (h0 : 0 < k) : ∃ d, fcDayN l k = d + 1 ∧ l[d]? = some 111 := by
  obtain ⟨a, b, c⟩ := fcDayN_spec l k h
  cases hd : fcDayN l k with
  | zero => rw [hd, fcAhead_zero] at a; omega
  | succ d =>
    rw [hd] at a b c
    have := c d (by omega)
    rw [fcAhead_succ l d (by omega)] at a
    refine ⟨d, rfl, ?_⟩
    rw [List.getElem?_eq_getElem (by omega)]
    split at a
    · rename_i hc; simpa using hc
    · omega
theorem fcDayN_zero (l : List UInt8) : fcDayN l 0 = 0 := by cases l <;> rfl
theorem fcDayN_lt (l : List UInt8) (j k : Nat) (h : j < k) (hk : k ≤ fcAhead l l.length) : fcDayN l j < fcDayN l k := by
  obtain ⟨a, b, c⟩ := fcDayN_spec l k hk
  obtain ⟨a', b', c'⟩ := fcDayN_spec l j (by omega)
  rcases Nat.lt_or_ge (fcDayN l j) (fcDayN l k) with h1 | h1
  · exact h1
  · have := fcAhead_mono l _ _ h1; omega
theorem fcDayN_le (l : List UInt8) (d : Nat) (hd : d ≤ l.length) : fcDayN l (fcAhead l d) ≤ d := by
  have hm := fcAhead_mono l d l.length hd
  obtain ⟨a, b, c⟩ := fcDayN_spec l (fcAhead l d) hm
  rcases Nat.lt_or_ge d (fcDayN l (fcAhead l d)) with h1 | h1
  · have := c d h1; omega
  · exact h1
theorem fcDayN_ge (l : List UInt8) (k : Nat) (h : k ≤ fcAhead l l.length) : k ≤ fcDayN l k := by
  obtain ⟨a, b, c⟩ := fcDayN_spec l k h
  have := fcAhead_le l (fcDayN l k); omega
/-- Parts of a forecast. -/
theorem fcValid_take {l : List UInt8} (h : fcValid l = true) (k : Nat) : fcValid (l.take k) = true := by
  unfold fcValid fcOk at h ⊢
  simp only [Bool.and_eq_true, decide_eq_true_eq, List.all_eq_true] at h ⊢
  exact ⟨fun c hc => h.1 c (List.mem_of_mem_take hc), by rw [List.length_take]; omega⟩
theorem fcValid_drop {l : List UInt8} (h : fcValid l = true) (k : Nat) : fcValid (l.drop k) = true := by
  unfold fcValid fcOk at h ⊢
  simp only [Bool.and_eq_true, decide_eq_true_eq, List.all_eq_true] at h ⊢
  exact ⟨fun c hc => h.1 c (List.mem_of_mem_drop hc), by rw [List.length_drop]; omega⟩
theorem fcAhead_split (l : List UInt8) (k : Nat) (h : k ≤ l.length) : fcAhead (l.take k) k + fcAhead (l.drop k) (l.length - k) = fcAhead l l.length := by
  unfold fcAhead
  rw [List.take_take, Nat.min_self, List.take_of_length_le (l := l.drop k) (by rw [List.length_drop]; exact Nat.le_refl _), List.take_length]
  unfold cntO
  rw [← List.countP_append, List.take_append_drop]
end Go.Proofs.Ytglncadfmomamaa
