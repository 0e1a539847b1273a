/- Sums over orders of numbers: plain. -/
import Derived.Test.YtglncadfmomamaaEnds
namespace Go.Proofs.Ytglncadfmomamaa
set_option linter.unusedVariables false
set_option linter.unusedSimpArgs false
def sumN (f : Nat → Int) : Nat → Int
  | 0 => 0
  | n + 1 => sumN f n + f n
theorem sumN_congr {f g : Nat → Int} : ∀ (n : Nat), (∀ i, i < n → f i = g i) → sumN f n = sumN g n
  | 0, _ => rfl
  | n + 1, h => by rw [sumN, sumN, sumN_congr n (fun i hi => h i (by omega)), h n (by omega)]
theorem sumN_nonneg {f : Nat → Int} : ∀ (n : Nat), (∀ i, i < n → 0 ≤ f i) → 0 ≤ sumN f n
  | 0, _ => Int.le_refl _
  | n + 1, h => by
    have := sumN_nonneg n (fun i hi => h i (by omega))
    have := h n (by omega)
    rw [sumN]; omega
theorem sumN_zero {f : Nat → Int} : ∀ (n : Nat), (∀ i, i < n → 0 ≤ f i) → sumN f n = 0 → ∀ i, i < n → f i = 0
  | 0, _, _, i, hi => by omega
  | n + 1, h, h0, i, hi => by
    have h1 := sumN_nonneg n (fun i hi => h i (by omega))
    have h2 := h n (by omega)
    rw [sumN] at h0
    rcases (by omega : i < n ∨ i = n) with h3 | rfl
    · exact sumN_zero n (fun i hi => h i (by omega)) (by omega) i h3
    · omega
theorem sumN_sub (f g : Nat → Int) : ∀ n, sumN (fun i => f i - g i) n = sumN f n - sumN g n
  | 0 => rfl
  | n + 1 => by rw [sumN, sumN, sumN, sumN_sub f g n]; omega
theorem sumN_one : ∀ n, sumN (fun _ => 1) n = n
  | 0 => rfl
  | n + 1 => by rw [sumN, sumN_one n]; push_cast; rfl
/-- Which numbers the first k of an order are. -/
def marks (P : List Int) (n : Nat) : Nat → List Int
  | 0 => List.replicate n 0
  | k + 1 => (marks P n k).set (P.getD k 0).toNat 1
theorem marks_length (P : List Int) (n k : Nat) : (marks P n k).length = n := by
  induction k with
  | zero => simp [marks]
  | succ k ih => rw [marks, List.length_set, ih]
theorem marks_bd (P : List Int) (n : Nat) : ∀ (k i : Nat), (marks P n k).getD i 0 = 0 ∨ (marks P n k).getD i 0 = 1
  | 0, i => by
    rw [marks, List.getD, List.getElem?_replicate]
    split <;> simp
  | k + 1, i => by
    rw [marks]
    by_cases h : (P.getD k 0).toNat = i
    · by_cases h2 : i < (marks P n k).length
      · rw [← h] at h2 ⊢; rw [getD_set_self _ _ _ h2]; exact .inr rfl
      · rw [List.getD, List.getElem?_eq_none (by rw [List.length_set]; omega)]; exact .inl rfl
    · rw [getD_set_ne _ _ _ _ h]; exact marks_bd P n k i
theorem marks_zero {P : List Int} {n : Nat} (hp : ∀ k, k < P.length → 0 ≤ P.getD k 0) (q : Nat) : ∀ k, k ≤ P.length → (∀ j, j < k → P.getD j 0 ≠ q) → (marks P n k).getD q 0 = 0
  | 0, _, _ => by
    unfold marks
    rw [List.getD, List.getElem?_replicate]
    split <;> rfl
  | k + 1, hk, h => by
    rw [marks, getD_set_ne _ _ _ _ (fun e => h k (by omega) (by have := hp k (by omega); omega))]
    exact marks_zero hp q k (by omega) (fun j hj => h j (by omega))
theorem sum_set (f : Nat → Int) (E : List Int) (p : Nat) (v : Int) (hp : p < E.length) (h0 : E.getD p 0 = 0) (i : Nat) : sumN (fun i => (E.set p v).getD i 0 * f i) i = sumN (fun i => E.getD i 0 * f i) i + (if p < i then v * f p else 0) := by
  induction i with
  | zero => simp [sumN]
  | succ i ih =>
    rw [sumN, sumN, ih]
    by_cases h : p = i
    · subst h
      rw [getD_set_self _ _ _ hp, h0, if_neg (by omega), if_pos (by omega)]; omega
    · rw [getD_set_ne _ _ _ _ h]
      by_cases h2 : p < i
      · rw [if_pos h2, if_pos (by omega)]; omega
      · rw [if_neg h2, if_neg (by omega)]; omega
theorem perm_at {P : List Int} (hpm : permB P = true) : (∀ j, j < P.length → 0 ≤ P.getD j 0 ∧ P.getD j 0 < P.length) ∧ ∀ i j, i < j → j < P.length → P.getD i 0 ≠ P.getD j 0 := by
  obtain ⟨hin, hnd⟩ := permB_spec hpm
  have hg : ∀ j (hj : j < P.length), P.getD j 0 = P[j] := fun j hj => by rw [List.getD, List.getElem?_eq_getElem hj]; rfl
  refine ⟨fun j hj => ?_, fun i j hij hj e => ?_⟩
  · rw [hg j hj]; exact hin _ (List.getElem_mem hj)
  · rw [hg i (by omega), hg j hj] at e
    have := (List.nodup_iff_pairwise_ne.1 hnd)
    rw [List.pairwise_iff_getElem] at this
    exact this i j (by omega) hj hij e
theorem sum_marks {P : List Int} (hpm : permB P = true) (f : Nat → Int) : ∀ k, k ≤ P.length → sumN (fun i => (marks P P.length k).getD i 0 * f i) P.length = sumN (fun j => f (P.getD j 0).toNat) k
  | 0, _ => by
    have : sumN (fun i => (marks P P.length 0).getD i 0 * f i) P.length = sumN (fun _ => 0) P.length := sumN_congr _ (fun i hi => by
      rw [marks, List.getD, List.getElem?_replicate]
      split <;> simp)
    rw [this]
    have : ∀ n, sumN (fun _ => 0) n = 0 := fun n => by induction n with | zero => rfl | succ n ih => rw [sumN, ih]; rfl
    rw [this]; rfl
  | k + 1, hk => by
    obtain ⟨h0, hne⟩ := perm_at hpm
    obtain ⟨h1, h2⟩ := h0 k (by omega)
    obtain ⟨q, hq⟩ := Int.eq_ofNat_of_zero_le h1
    have hz : (marks P P.length k).getD q 0 = 0 := marks_zero (fun j hj => (h0 j hj).1) q k (by omega) (fun j hj e => hne j k hj (by omega) (by rw [e, hq]))
    rw [sumN, marks, hq, Int.toNat_natCast, sum_set f _ q 1 (by rw [marks_length]; omega) hz, if_pos (by omega), sum_marks hpm f k (by omega)]
    omega
/-- A sum over an order is the sum over the numbers. -/
theorem perm_sum {P : List Int} (hpm : permB P = true) (f : Nat → Int) : sumN (fun j => f (P.getD j 0).toNat) P.length = sumN f P.length := by
  have h1 := sum_marks hpm (fun _ => 1) P.length (Nat.le_refl _)
  rw [sumN_one] at h1
  have h2 : sumN (fun i => 1 - (marks P P.length P.length).getD i 0) P.length = 0 := by
    rw [sumN_sub, sumN_one]
    have : sumN (fun i => (marks P P.length P.length).getD i 0 * 1) P.length = sumN (fun i => (marks P P.length P.length).getD i 0) P.length := sumN_congr _ (fun i _ => by omega)
    omega
  have h3 := sumN_zero _ (fun i _ => by rcases marks_bd P P.length P.length i with h | h <;> omega) h2
  rw [← sum_marks hpm f P.length (Nat.le_refl _)]
  exact sumN_congr _ (fun i hi => by have := h3 i hi; have e : (marks P P.length P.length).getD i 0 = 1 := by omega
                                     rw [e]; omega)
theorem workTo_sum (J : List Jb) (P : List Int) : ∀ k, workTo J P k = sumN (fun j => (jAt J (P.getD j 0)).d) k
  | 0 => rfl
  | k + 1 => by rw [workTo, sumN, workTo_sum J P k]
theorem jDays_sum (J : List Jb) : jDays J = sumN (fun i => (jAt J (i : Nat)).d) J.length := by
  have : ∀ k, k ≤ J.length → jDays (J.take k) = sumN (fun i => (jAt J (i : Nat)).d) k := by
    intro k
    induction k with
    | zero => intro _; simp [jDays, sumN]
    | succ k ih =>
      intro hk
      rw [jDays_next (List.getElem?_eq_getElem (show k < J.length by omega)), sumN, ← ih (by omega)]
      have e : jAt J (k : Nat) = J[k] := by unfold jAt; rw [Int.toNat_natCast, List.getD, List.getElem?_eq_getElem (by omega)]; rfl
      rw [e]
  have h := this J.length (Nat.le_refl _)
  rwa [List.take_length] at h
theorem workTo_whole {J : List Jb} {P : List Int} (hpm : permB P = true) (hl : P.length = J.length) : workTo J P P.length = jDays J := by
  rw [workTo_sum, jDays_sum, ← hl]
  refine Eq.trans ?_ (perm_sum hpm (fun i => (jAt J (i : Nat)).d))
  exact sumN_congr _ (fun j hj => by
    have h := (perm_at hpm).1 j hj
    obtain ⟨q, hq⟩ := Int.eq_ofNat_of_zero_le h.1
    rw [hq, Int.toNat_natCast])
end Go.Proofs.Ytglncadfmomamaa
