/- Runs of open days: plain numbers. -/
import Derived.Test.YtmccicgpgcidoaaDoorFc
import Derived.Lib.TrailingZeros
namespace Go.Proofs.YtmccicgpgcidoaaDoor
set_option linter.unusedVariables false
set_option linter.unusedSimpArgs false
/-- How many days are open from the head on. -/
def run0 : List UInt8 → Nat
  | [] => 0
  | c :: l => if c == 111 then run0 l + 1 else 0
def runAt (l : List UInt8) (d : Nat) : Nat := run0 (l.drop d)
theorem run0_le (l : List UInt8) : run0 l ≤ l.length := by
  induction l with
  | nil => exact Nat.le_refl _
  | cons c l ih => rw [run0, List.length_cons]; split <;> omega
theorem runAt_le (l : List UInt8) (d : Nat) : runAt l d ≤ l.length - d := by
  have := run0_le (l.drop d)
  rw [List.length_drop] at this
  exact this
theorem maskL_drop (l : List UInt8) (d : Nat) : maskL l / 2 ^ d = maskL (l.drop d) := by
  induction d generalizing l with
  | zero => simp
  | succ d ih => cases l with
    | nil => simp [maskL]
    | cons c l =>
      rw [List.drop_succ_cons, ← ih, maskL, Nat.pow_succ', ← Nat.div_div_eq_div_mul]
      congr 1
      split <;> omega
/-- The bits' complement: a power of two, and an odd number. -/
theorem mask_not (l : List UInt8) (n : Nat) (h : l.length < n) : ∃ m, 2 ^ n - 1 - maskL l = 2 ^ run0 l * (2 * m + 1) := by
  induction l generalizing n with
  | nil =>
    obtain ⟨j, rfl⟩ : ∃ j, n = j + 1 := ⟨n - 1, by simp at h; omega⟩
    refine ⟨2 ^ j - 1, ?_⟩
    have := Nat.two_pow_pos j
    simp [run0, maskL, Nat.pow_succ]; omega
  | cons c l ih =>
    obtain ⟨j, rfl⟩ : ∃ j, n = j + 1 := ⟨n - 1, by simp at h; omega⟩
    rw [List.length_cons] at h
    obtain ⟨m, hm⟩ := ih j (by omega)
    have hlt := maskL_lt l
    have hp : 2 ^ l.length ≤ 2 ^ j := Nat.pow_le_pow_right (by omega) (by omega)
    have h0 := Nat.two_pow_pos j
    rw [run0, maskL]
    cases hc : c == 111 with
    | true =>
      refine ⟨m, ?_⟩
      rw [if_pos rfl, if_pos rfl, Nat.pow_succ, Nat.pow_succ, Nat.mul_comm (2 ^ run0 l) 2, Nat.mul_assoc, ← hm]
      omega
    | false =>
      rw [if_neg (by simp), if_neg (by simp)]
      exact ⟨2 ^ j - 1 - maskL l, by rw [Nat.pow_succ, Nat.pow_zero]; omega⟩
/-- The table's place for a power of two. -/
theorem low_bit (l : List UInt8) (h : l.length < 32) : run0 l < 32 ∧ (4294967295 - maskL l) &&& (4294967296 - (4294967295 - maskL l)) = 2 ^ run0 l ∧ 4294967295 - maskL l ≠ 0 := by
  obtain ⟨m, hm⟩ := mask_not l 32 h
  have hr := run0_le l
  have hlt := maskL_lt l
  have hp : 2 ^ l.length ≤ 2 ^ 31 := Nat.pow_le_pow_right (by omega) (by omega)
  have e : 4294967295 - maskL l = 2 ^ run0 l * (2 * m + 1) := by rw [← hm]
  refine ⟨by omega, ?_, by omega⟩
  have hb : 2 ^ run0 l * (2 * m + 1) < 2 ^ 32 := by rw [← e]; omega
  have := Lib.and_neg 32 (run0 l) m hb
  rw [e]; exact this
theorem run0_open {l : List UInt8} {k : Nat} (hok : fcOk l = true) : k ≤ run0 l ↔ k ≤ l.length ∧ fcAhead l k = k := by
  induction l generalizing k with
  | nil => cases k with
    | zero => simp [run0, fcAhead, cntO]
    | succ k => simp [run0]
  | cons c l ih =>
    have hok' : fcOk l = true := by unfold fcOk at hok ⊢; rw [List.all_cons, Bool.and_eq_true] at hok; exact hok.2
    cases k with
    | zero => simp [fcAhead, cntO]
    | succ k =>
      rw [run0, fcAhead_cons, List.length_cons]
      have := fcAhead_le l k
      cases hc : c == 111 with
      | true => rw [if_pos rfl, if_pos rfl]; have := ih (k := k) hok'; omega
      | false => rw [if_neg (by simp), if_neg (by simp)]; omega
theorem fcAhead_add (l : List UInt8) (d k : Nat) : fcAhead l (d + k) = fcAhead l d + fcAhead (l.drop d) k := by
  unfold fcAhead cntO
  rw [List.take_add, List.countP_append]
theorem fcOk_drop {l : List UInt8} (h : fcOk l = true) (d : Nat) : fcOk (l.drop d) = true := by
  unfold fcOk at h ⊢
  rw [List.all_eq_true] at h ⊢
  exact fun x hx => h x (List.mem_of_mem_drop hx)
/-- A window: so many days are open from a day on. -/
theorem runAt_open {l : List UInt8} (hok : fcOk l = true) {d k : Nat} (hd : d ≤ l.length) : k ≤ runAt l d ↔ d + k ≤ l.length ∧ fcAhead l (d + k) - fcAhead l d = k := by
  rw [runAt, run0_open (fcOk_drop hok d), List.length_drop, fcAhead_add]
  omega
/-- What the reference counts. -/
def nowTo (l : List UInt8) : Nat → Nat
  | 0 => 0
  | i + 1 => if l[i]? = some 120 then 0 else nowTo l i + 1
def mostTo (l : List UInt8) : Nat → Nat
  | 0 => 0
  | i + 1 => max (mostTo l i) (nowTo l (i + 1))
def mostRun (l : List UInt8) : Nat → Nat
  | 0 => 0
  | d + 1 => max (mostRun l d) (runAt l d)
theorem nowTo_le (l : List UInt8) (i : Nat) : nowTo l i ≤ i := by
  induction i with
  | zero => exact Nat.le_refl _
  | succ i ih => rw [nowTo]; split <;> omega
theorem mostTo_le (l : List UInt8) (i : Nat) : mostTo l i ≤ i := by
  induction i with
  | zero => exact Nat.le_refl _
  | succ i ih => have := nowTo_le l (i + 1); rw [mostTo]; omega
theorem mostRun_le (l : List UInt8) (d : Nat) : mostRun l d ≤ l.length := by
  induction d with
  | zero => exact Nat.zero_le _
  | succ d ih => have := runAt_le l d; rw [mostRun]; omega
theorem runAt_step {l : List UInt8} {d : Nat} (h : l[d]? = some 111) : runAt l d = runAt l (d + 1) + 1 := by
  have hd : d < l.length := (List.getElem?_eq_some_iff.1 h).1
  rw [runAt, runAt, List.drop_eq_getElem_cons hd, run0]
  have e : l[d] = 111 := by rw [List.getElem?_eq_getElem hd] at h; injection h
  rw [e]; rfl
theorem nowTo_ge {l : List UInt8} (hok : fcOk l = true) (r d : Nat) (h : r ≤ runAt l d) (hd : d ≤ l.length) : r ≤ nowTo l (d + r) := by
  induction r with
  | zero => exact Nat.zero_le _
  | succ r ih =>
    have h1 := ih (by omega)
    have h2 := (runAt_open hok hd).1 h
    have h3 := (runAt_open hok hd (k := r)).1 (by omega)
    rw [← Nat.add_assoc, nowTo]
    have hlt : d + r < l.length := by omega
    have h4 := fcAhead_succ l (d + r) hlt
    have hne : ¬ l[d + r]? = some 120 := by
      rw [List.getElem?_eq_getElem hlt]
      intro e
      injection e with e
      rw [← Nat.add_assoc, h4, e, if_neg (by decide)] at h2
      omega
    rw [if_neg hne]; omega
theorem runAt_ge {l : List UInt8} (hok : fcOk l = true) (i : Nat) (hi : i ≤ l.length) (j : Nat) (hj : j ≤ nowTo l i) : j ≤ runAt l (i - j) := by
  induction i generalizing j with
  | zero => have := hj; rw [nowTo] at this; omega
  | succ i ih =>
    rw [nowTo] at hj
    cases j with
    | zero => exact Nat.zero_le _
    | succ j =>
      by_cases e : l[i]? = some 120
      · rw [if_pos e] at hj; omega
      · rw [if_neg e] at hj
        have hlt : i < l.length := by omega
        have h1 := ih (by omega) j (by omega)
        have hn := nowTo_le l i
        rw [show i + 1 - (j + 1) = i - j by omega]
        have h2 := (runAt_open hok (d := i - j) (by omega)).1 h1
        refine (runAt_open hok (by omega)).2 ⟨by omega, ?_⟩
        have h4 := fcAhead_succ l i hlt
        have hc : l[i] = 111 := by
          unfold fcOk at hok
          rw [List.all_eq_true] at hok
          have h5 := hok l[i] (List.getElem_mem hlt)
          rw [Bool.or_eq_true] at h5
          rcases h5 with h5 | h5
          · exact beq_iff_eq.1 h5
          · exact absurd (by rw [List.getElem?_eq_getElem hlt, beq_iff_eq.1 h5]) e
        rw [hc, if_pos (by decide)] at h4
        rw [show i - j + (j + 1) = i + 1 by omega, h4]
        rw [show i - j + j = i by omega] at h2
        have hm := fcAhead_mono l (i - j) i (by omega)
        omega
theorem mostRun_has (l : List UInt8) (n : Nat) (d : Nat) (h : d < n) : runAt l d ≤ mostRun l n := by
  induction n with
  | zero => omega
  | succ n ih =>
    rw [mostRun]
    rcases (by omega : d < n ∨ d = n) with h1 | rfl
    · have := ih h1; omega
    · omega
theorem mostTo_has (l : List UInt8) (n : Nat) (i : Nat) (h : i ≤ n) : nowTo l i ≤ mostTo l n := by
  induction n with
  | zero => obtain rfl : i = 0 := by omega
            exact Nat.le_refl _
  | succ n ih =>
    rw [mostTo]
    rcases (by omega : i ≤ n ∨ i = n + 1) with h1 | rfl
    · have := ih h1; omega
    · omega
theorem most_same {l : List UInt8} (hok : fcOk l = true) : mostTo l l.length = mostRun l l.length := by
  have h1 : ∀ n, n ≤ l.length → mostTo l n ≤ mostRun l l.length := fun n => by
    induction n with
    | zero => intro _; exact Nat.zero_le _
    | succ n ih =>
      intro hn
      have ha := ih (by omega)
      have hb := runAt_ge hok (n + 1) hn _ (Nat.le_refl _)
      have hc := nowTo_le l (n + 1)
      rw [mostTo]
      by_cases h0 : nowTo l (n + 1) = 0
      · omega
      · have := mostRun_has l l.length (n + 1 - nowTo l (n + 1)) (by omega)
        omega
  have h2 : ∀ n, n ≤ l.length → mostRun l n ≤ mostTo l l.length := fun n => by
    induction n with
    | zero => intro _; exact Nat.zero_le _
    | succ n ih =>
      intro hn
      have ha := ih (by omega)
      have hb := nowTo_ge hok (runAt l n) n (Nat.le_refl _) (by omega)
      have hc := runAt_le l n
      have := mostTo_has l l.length (n + runAt l n) (by omega)
      rw [mostRun]; omega
  have := h1 _ (Nat.le_refl _)
  have := h2 _ (Nat.le_refl _)
  omega
/-- The first window. -/
def winTo (l : List UInt8) (k : Nat) : Nat → Option Nat
  | 0 => none
  | d + 1 => match winTo l k d with
    | some e => some e
    | none => if k ≤ runAt l d then some d else none
theorem winTo_stay {l : List UInt8} {k d e : Nat} (h : winTo l k d = some e) (j : Nat) : winTo l k (d + j) = some e := by
  induction j with
  | zero => exact h
  | succ j ih => rw [← Nat.add_assoc, winTo, ih]
theorem winTo_past {l : List UInt8} {k d : Nat} (h : winTo l k d = none) (hd : l.length < d + k) (hdl : d ≤ l.length) (j : Nat) : winTo l k (d + j) = none := by
  induction j with
  | zero => exact h
  | succ j ih =>
    have := runAt_le l (d + j)
    rw [← Nat.add_assoc, winTo, ih]
    simp only
    rw [if_neg (by omega)]
theorem winTo_spec {l : List UInt8} {k n e : Nat} (h : winTo l k n = some e) : e < n ∧ k ≤ runAt l e ∧ ∀ d, d < e → ¬ k ≤ runAt l d := by
  have hnone : ∀ m, winTo l k m = none → ∀ d, d < m → ¬ k ≤ runAt l d := fun m => by
    induction m with
    | zero => intro _ d hd; omega
    | succ m ih =>
      intro hm d hd
      rw [winTo] at hm
      cases hw : winTo l k m with
      | some x => rw [hw] at hm; cases hm
      | none =>
        rw [hw] at hm
        simp only at hm
        by_cases hr : k ≤ runAt l m
        · rw [if_pos hr] at hm; cases hm
        · rcases (by omega : d < m ∨ d = m) with h1 | rfl
          · exact ih hw d h1
          · exact hr
  induction n with
  | zero => cases h
  | succ n ih =>
    rw [winTo] at h
    cases hw : winTo l k n with
    | some x =>
      rw [hw] at h
      injection h with h
      subst h
      obtain ⟨h1, h2⟩ := ih hw
      exact ⟨by omega, h2⟩
    | none =>
      rw [hw] at h
      simp only at h
      by_cases hr : k ≤ runAt l n
      · rw [if_pos hr] at h
        injection h with h
        subst h
        exact ⟨by omega, hr, hnone _ hw⟩
      · rw [if_neg hr] at h; cases h
theorem winTo_has {l : List UInt8} {k n d : Nat} (hd : d < n) (h : k ≤ runAt l d) : ∃ e, winTo l k n = some e ∧ e ≤ d := by
  induction n with
  | zero => omega
  | succ n ih =>
    rw [winTo]
    cases hw : winTo l k n with
    | some x =>
      refine ⟨x, rfl, ?_⟩
      have := (winTo_spec hw).2.2
      rcases Nat.lt_or_ge d x with h1 | h1
      · exact absurd h (this d h1)
      · exact h1
    | none =>
      rcases (by omega : d < n ∨ d = n) with h1 | rfl
      · obtain ⟨e, he, _⟩ := ih h1
        rw [hw] at he; cases he
      · exact ⟨d, by simp only; rw [if_pos h], Nat.le_refl _⟩
theorem mostRun_at (l : List UInt8) (n : Nat) : mostRun l n = 0 ∨ ∃ d, d < n ∧ runAt l d = mostRun l n := by
  induction n with
  | zero => exact .inl rfl
  | succ n ih =>
    rw [mostRun]
    by_cases h : runAt l n ≤ mostRun l n
    · rw [Nat.max_eq_left h]
      rcases ih with h1 | ⟨d, hd, h1⟩
      · exact .inl h1
      · exact .inr ⟨d, by omega, h1⟩
    · rw [Nat.max_eq_right (by omega)]
      exact .inr ⟨n, by omega, rfl⟩
def winV (l : List UInt8) (k : Int) : Int := if fcValid l = true ∧ 1 ≤ k ∧ k ≤ 30 then (match winTo l k.toNat l.length with | some d => (d : Int) | none => -1) else -1
def longV (l : List UInt8) : Int := if fcValid l = true then (mostRun l l.length : Int) else -1
end Go.Proofs.YtmccicgpgcidoaaDoor
