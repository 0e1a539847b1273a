/- SignalValid of the program, walked. -/
import Derived.Test.YtpldkfbglfcidaaDoorSv
import Derived.Test.YtpldkfbglfcidaaDoorShelf160
namespace Go.Proofs.YtpldkfbglfcidaaDoor
set_option linter.unusedVariables false
set_option linter.unusedSimpArgs false
open Go.RowKit Go.Shelf
theorem drop_head {p : UInt8 → Bool} {l r : List UInt8} {a : UInt8} (h : l.dropWhile p = a :: r) : p a = false := by
  induction l with
  | nil => simp at h
  | cons x l ih =>
    rw [List.dropWhile_cons] at h
    split at h
    · exact ih h
    · rename_i hx
      injection h with h1 h2
      rw [← h1]; simpa using hx
theorem drop_nil {p : UInt8 → Bool} {l : List UInt8} : l.dropWhile p = [] ↔ ∀ x ∈ l, p x = true := by
  induction l with
  | nil => simp
  | cons x l ih =>
    rw [List.dropWhile_cons]
    split
    · rename_i hx; rw [ih]; simp [hx]
    · rename_i hx; simp [hx]
theorem trim_all {l cs : List UInt8} : (Lib.trimS l cs).isEmpty = l.all (fun c => cs.contains c) := by
  rw [Bool.eq_iff_iff, List.isEmpty_iff, List.all_eq_true]
  unfold Lib.trimS Lib.trimLeftS Lib.trimRightS
  rw [drop_nil]
  constructor
  · intro h
    have h0 : l.reverse.dropWhile (cs.contains ·) = [] := by
      cases hd : l.reverse.dropWhile (cs.contains ·) with
      | nil => rfl
      | cons a r =>
        have h1 := h a (by rw [hd]; simp)
        rw [drop_head hd] at h1
        cases h1
    rw [drop_nil] at h0
    intro x hx
    exact h0 x (by simpa using hx)
  · intro h
    have h0 : l.reverse.dropWhile (cs.contains ·) = [] := drop_nil.2 (fun x hx => h x (by simpa using hx))
    rw [h0]
    simp
set_option maxRecDepth 100000 in
theorem implSv (s : ByteArray) (hs : s.size ≤ maxLen) (w : World) :
    Calls Tryd.prog 17 #[.string s] w fun e w' => e = .returned (.bool (sgValid s.data.toList)) ∧ Below w.heap.size w w' := by
  have hs' := hs
  unfold maxLen at hs'
  have hT := Any.strings_Trim_laid Tryd.lays160 (by kernel_rfl) s ⟨#[45, 43, 48]⟩
  change ∀ w, _ → _ → _ → Calls Tryd.prog 40 _ _ (fun e w' => e = .returned (.string ⟨(Lib.trimS s.data.toList [45, 43, 48]).toArray⟩) ∧ Below w.heap.size w w') at hT
  have HT := Lib.hid (fun w => hT w (by omega) (by decide) (ascii_of_all (by decide)))
  obtain ⟨t, ht⟩ : ∃ t, t = Lib.trimS s.data.toList [45, 43, 48] := ⟨_, rfl⟩
  rw [← ht] at HT
  have hte := Lib.hid (trim_all (l := s.data.toList) (cs := [45, 43, 48]))
  rw [← ht] at hte
  have hlen : s.data.toList.length = s.size := by simp
  clear hT ht
  go_enter Tryd.func17, Tryd.ntmps17
  go_wp2_with (first | (go_at_call 40; refine (HT.out _).mono ?_; rintro e w' ⟨rfl, hB⟩))
  · go_ret
    refine ⟨ret_bool ?_, hB⟩
    have h80 : s.size ≤ 80 := by omega
    rw [hte.out, sgValid, hlen, decide_eq_true h80, Bool.and_true]
    congr 1
    funext c
    exact pul_has c
  · go_ret
    refine ⟨ret_bool ?_, Below.refl _ _⟩
    have h80 : ¬ s.size ≤ 80 := by omega
    rw [sgValid, hlen, decide_eq_false h80, Bool.and_false]
theorem specSvB (s : ByteArray) (hs : s.size ≤ maxLen) (w : World) :
    Calls Tryd.prog 16 #[.string s] w fun e w' => ∃ r, e = .returned (.bool r) ∧ r = sgValid s.data.toList ∧ Below w.heap.size w w' :=
  (specSv s hs w).mono fun _ _ ⟨he, hw⟩ => ⟨_, he, rfl, hw ▸ Below.refl _ _⟩
theorem implSvB (s : ByteArray) (hs : s.size ≤ maxLen) (w : World) :
    Calls Tryd.prog 17 #[.string s] w fun e w' => ∃ r, e = .returned (.bool r) ∧ r = sgValid s.data.toList ∧ Below w.heap.size w w' :=
  (implSv s hs w).mono fun _ _ ⟨he, hw⟩ => ⟨_, he, rfl, hw⟩
theorem eq2 {α : Type} {a b c : α} (h : a = c) (k : b = c) : a = b := h.trans k.symm
end Go.Proofs.YtpldkfbglfcidaaDoor
