/- Plain laws: votes of three. -/
import Derived.Test.YtpldkfbglfcidaaDoorSt
namespace Go.Proofs.YtpldkfbglfcidaaDoor
set_option linter.unusedVariables false
set_option linter.unusedSimpArgs false
theorem farOk_comm (a b : List UInt8) : farOk a b = farOk b a := by
  unfold farOk
  cases sgValid a <;> cases sgValid b <;> simp [eq_comm]
theorem farOk_parts {a b : List UInt8} (h : farOk a b = true) : sgValid a = true ∧ sgValid b = true ∧ a.length = b.length := by
  unfold farOk at h
  simp only [Bool.and_eq_true, decide_eq_true_eq] at h
  exact h
theorem farOk_of {a b : List UInt8} (h1 : sgValid a = true) (h2 : sgValid b = true) (h3 : a.length = b.length) : farOk a b = true := by
  unfold farOk; rw [h1, h2, decide_eq_true h3]; rfl
theorem voteOk_parts {a b c : List UInt8} (h : voteOk a b c = true) : sgValid a = true ∧ sgValid b = true ∧ sgValid c = true ∧ a.length = b.length ∧ a.length = c.length := by
  unfold voteOk at h
  rw [Bool.and_eq_true] at h
  obtain ⟨h1, h2⟩ := h
  obtain ⟨a1, a2, a3⟩ := farOk_parts h1
  obtain ⟨_, b2, b3⟩ := farOk_parts h2
  exact ⟨a1, a2, b2, a3, b3⟩
theorem voteOk_of {a b c : List UInt8} (h1 : sgValid a = true) (h2 : sgValid b = true) (h3 : sgValid c = true) (h4 : a.length = b.length) (h5 : a.length = c.length) : voteOk a b c = true := by
  unfold voteOk; rw [farOk_of h1 h2 h4, farOk_of h1 h3 h5]; rfl
theorem voteC_cab (a b c : UInt8) : voteC c a b = voteC a b c := by
  unfold voteC
  by_cases h1 : a = b
  · subst h1; by_cases h2 : c = a <;> simp [h2]
  · by_cases h2 : c = a
    · subst h2; simp [h1]
    · by_cases h3 : c = b
      · subst h3
        have : ¬ a = c := fun e => h2 e.symm
        simp [h1, h2]
      · have h4 : ¬ a = c := fun e => h2 e.symm
        have h5 : ¬ b = c := fun e => h3 e.symm
        simp [h1, h2, h3, h4, h5]
theorem voteC_bac (a b c : UInt8) : voteC b a c = voteC a b c := by
  unfold voteC
  by_cases h1 : a = b
  · subst h1; rfl
  · have h2 : ¬ b = a := fun e => h1 e.symm
    by_cases h3 : b = c
    · subst h3; simp [h1, h2]
    · by_cases h4 : a = c
      · subst h4; simp [h1, h2]
      · simp [h1, h2, h3, h4]
theorem voteTo_cab (a b c : List UInt8) (n : Nat) : voteTo c a b n = voteTo a b c n := by
  unfold voteTo; simp only [voteC_cab]
theorem voteTo_bac (a b c : List UInt8) (n : Nat) : voteTo b a c n = voteTo a b c n := by
  unfold voteTo; simp only [voteC_bac]
theorem voteTo_aab (a b : List UInt8) : voteTo a a b a.length = a := by
  unfold voteTo
  apply List.ext_getElem?
  intro k
  rw [List.getElem?_map]
  by_cases h : k < a.length
  · rw [List.getElem?_range h, List.getElem?_eq_getElem h]
    simp [voteC, List.getElem?_eq_getElem h]
  · rw [List.getElem?_eq_none (by simp; omega), List.getElem?_eq_none (by omega)]; rfl
/-- The four votes of the law agree. -/
theorem votes_law {a b c : List UInt8} (h : voteOk a b c = true) :
    voteR c a b (voteS a b c) true ∧ voteR b a c (voteS a b c) true ∧ voteR a a b ⟨a.toArray⟩ true := by
  obtain ⟨ha, hb, hc, hab, hac⟩ := voteOk_parts h
  have h1 : voteOk c a b = true := voteOk_of hc ha hb hac.symm (by omega)
  have h2 : voteOk b a c = true := voteOk_of hb ha hc hab.symm (by omega)
  have h3 : voteOk a a b = true := voteOk_of ha ha hb rfl hab
  refine ⟨⟨?_, h1.symm⟩, ⟨?_, h2.symm⟩, ⟨?_, h3.symm⟩⟩
  · unfold voteS; rw [if_pos h, if_pos h1, voteTo_cab a b c, hac]
  · unfold voteS; rw [if_pos h, if_pos h2, voteTo_bac a b c, hab]
  · unfold voteS; rw [if_pos h3, voteTo_aab]
/-- Two of three have the pulse, or it is 0. -/
theorem voteC_two (a b c : UInt8) : ((a = voteC a b c ∧ b = voteC a b c) ∨ (a = voteC a b c ∧ c = voteC a b c) ∨ (b = voteC a b c ∧ c = voteC a b c)) ∨ voteC a b c = 48 := by
  unfold voteC
  by_cases h1 : a = b
  · subst h1; left; left; simp
  · by_cases h2 : a = c
    · subst h2; left; right; left; simp [h1]
    · by_cases h3 : b = c
      · subst h3; left; right; right; simp [h1]
      · right; simp [h1, h2, h3]
end Go.Proofs.YtpldkfbglfcidaaDoor
