/- The first order of least loss is the one that is built step by step: plain. -/
import Derived.Test.YtglncadfmomamaaLeP
namespace Go.Proofs.Ytglncadfmomamaa
set_option linter.unusedVariables false
set_option linter.unusedSimpArgs false
def vAt (E : Int → Int) (J : List Jb) (n r : Nat) (dn : List Int) (wk : Int) (k : Nat) : Int := (jAt J (k : Nat)).w * E (wk + (jAt J (k : Nat)).d) + leastG E J n r (dn ++ [(k : Int)]) (wk + (jAt J (k : Nat)).d)
def firstI (E : Int → Int) (J : List Jb) (n r : Nat) (dn : List Int) (wk : Int) : Nat := ((List.range n).find? fun k : Nat => decide ((k : Int) ∉ dn) && decide (vAt E J n r dn wk k = leastG E J n (r + 1) dn wk)).getD 0
def gBest (E : Int → Int) (J : List Jb) (n : Nat) : Nat → List Int → Int → List Int
  | 0, dn, _ => dn
  | r + 1, dn, wk => gBest E J n r (dn ++ [(firstI E J n r dn wk : Int)]) (wk + (jAt J (firstI E J n r dn wk : Nat)).d)
theorem fold_from (F : List Int → Int) : ∀ (L : List (List Int)) (s : List Int × Int), (∀ y, y ∈ L → 0 ≤ F y) → L ≠ [] → L.foldl (stepB F) s = if s.2 < 0 ∨ (bestOf F L).2 < s.2 then bestOf F L else s
  | [], _, _, h => absurd rfl h
  | y :: L, s, hF, _ => by
    have hy := hF y (by simp)
    have e1 : bestOf F (y :: L) = L.foldl (stepB F) (y, F y) := by unfold bestOf; rw [List.foldl_cons]; congr 1
    rw [e1, List.foldl_cons]
    by_cases hL : L = []
    · subst hL
      simp only [List.foldl_nil]
      unfold stepB
      rfl
    · have ih := fun s => fold_from F L s (fun y h => hF y (by simp [h])) hL
      rw [ih, ih (y, F y)]
      obtain ⟨b, hb⟩ : ∃ b, b = bestOf F L := ⟨_, rfl⟩
      rw [← hb]
      unfold stepB
      dsimp only
      split <;> rename_i h1 <;> (try dsimp only) <;> (repeat' split) <;> (try dsimp only at *) <;> first | rfl | (exfalso; omega)
theorem sub_len : ∀ (l1 l2 : List Int), l1.Nodup → (∀ x, x ∈ l1 → x ∈ l2) → l1.length ≤ l2.length
  | [], _, _, _ => by simp
  | a :: l1, l2, hn, hs => by
    rw [List.nodup_cons] at hn
    have h := sub_len l1 (l2.erase a) hn.2 (fun x hx => by
      have hne : x ≠ a := fun e => hn.1 (e ▸ hx)
      exact (List.mem_erase_of_ne hne).2 (hs x (by simp [hx])))
    have ha := hs a (by simp)
    rw [List.length_erase_of_mem ha] at h
    have : 0 < l2.length := List.length_pos_of_mem ha
    simp
    omega
theorem pre_free {n : Nat} {dn : List Int} (h : dn.length < n) : ∃ k, k < n ∧ (k : Int) ∉ dn := by
  apply Classical.byContradiction
  intro hc
  have := sub_len ((List.range n).map fun k : Nat => (k : Int)) dn (range_ok n).2 (fun x hx => by
    obtain ⟨k, hk, rfl⟩ := List.mem_map.1 hx
    exact Classical.byContradiction fun h2 => hc ⟨k, List.mem_range.1 hk, h2⟩)
  simp at this
  omega
theorem perms_ok {n : Nat} : ∀ (r : Nat) (dn y : List Int), PreOk n dn → dn.length + r = n → y ∈ perms n r dn → PreOk n y ∧ y.length = n
  | 0, dn, y, h, hl, hy => by
    unfold perms at hy
    obtain rfl : y = dn := by simpa using hy
    exact ⟨h, by omega⟩
  | r + 1, dn, y, h, hl, hy => by
    unfold perms at hy
    obtain ⟨k, hk, hy⟩ := List.mem_flatMap.1 hy
    have hk := List.mem_range.1 hk
    split at hy
    · cases hy
    · rename_i hm
      exact perms_ok r _ y (h.snoc hk hm) (by simp; omega) hy
theorem find_first {p : Nat → Bool} : ∀ (n i : Nat), i < n → p i = true → (∀ j, j < i → p j = false) → (List.range n).find? p = some i
  | 0, i, h, _, _ => by omega
  | n + 1, i, h, hp, hj => by
    rw [List.range_succ, List.find?_append]
    rcases (by omega : i < n ∨ i = n) with h1 | rfl
    · rw [find_first n i h1 hp hj]; rfl
    · have : (List.range i).find? p = none := List.find?_eq_none.2 (fun x hx => by rw [hj x (List.mem_range.1 hx)]; simp)
      rw [this]
      simp [hp]
theorem best_perms {E : Int → Int} {J : List Jb} {n : Nat} {F wkf : List Int → Int} (h0 : ∀ x, PreOk n x → 0 ≤ F x)
    (hs : ∀ x k, PreOk n x → k < n → (k : Int) ∉ x → F (x ++ [(k : Int)]) = F x + (jAt J (k : Nat)).w * E (wkf x + (jAt J (k : Nat)).d) ∧ wkf (x ++ [(k : Int)]) = wkf x + (jAt J (k : Nat)).d ∧ 0 ≤ (jAt J (k : Nat)).w * E (wkf x + (jAt J (k : Nat)).d)) :
    ∀ (r : Nat) (dn : List Int), dn.length + r = n → PreOk n dn → bestOf F (perms n r dn) = (gBest E J n r dn (wkf dn), F dn + leastG E J n r dn (wkf dn)) ∧ 0 ≤ leastG E J n r dn (wkf dn) ∧ perms n r dn ≠ [] ∧
      (∀ r', r = r' + 1 → firstI E J n r' dn (wkf dn) < n ∧ (firstI E J n r' dn (wkf dn) : Int) ∉ dn ∧ vAt E J n r' dn (wkf dn) (firstI E J n r' dn (wkf dn)) = leastG E J n r dn (wkf dn) ∧ ∀ j, j < firstI E J n r' dn (wkf dn) → (j : Int) ∉ dn → vAt E J n r' dn (wkf dn) j ≠ leastG E J n r dn (wkf dn))
  | 0, dn, hl, hp => by
    refine ⟨?_, ?_, ?_, fun r' h => by omega⟩
    · have := h0 dn hp
      unfold perms bestOf gBest leastG
      simp [stepB]
    · unfold leastG; omega
    · unfold perms; simp
  | r + 1, dn, hl, hp => by
    obtain ⟨f, hf⟩ : ∃ f : Nat → List (List Int), f = fun k : Nat => if (k : Int) ∈ dn then [] else perms n r (dn ++ [(k : Int)]) := ⟨_, rfl⟩
    have hpm : perms n (r + 1) dn = (List.range n).flatMap f := by rw [hf]; rfl
    have hT : leastG E J n (r + 1) dn (wkf dn) = leastTo E J n r dn (wkf dn) n := rfl
    have key : ∀ k, k ≤ n → ((∀ j, j < k → (j : Int) ∈ dn) ∧ bestOf F ((List.range k).flatMap f) = ([], -1) ∧ leastTo E J n r dn (wkf dn) k = -1) ∨
        ∃ i, i < k ∧ (i : Int) ∉ dn ∧ vAt E J n r dn (wkf dn) i = leastTo E J n r dn (wkf dn) k ∧ 0 ≤ leastTo E J n r dn (wkf dn) k ∧ (∀ j, j < i → (j : Int) ∉ dn → leastTo E J n r dn (wkf dn) k < vAt E J n r dn (wkf dn) j) ∧ (∀ j, j < k → (j : Int) ∉ dn → leastTo E J n r dn (wkf dn) k ≤ vAt E J n r dn (wkf dn) j) ∧
          bestOf F ((List.range k).flatMap f) = (gBest E J n r (dn ++ [(i : Int)]) (wkf dn + (jAt J (i : Nat)).d), F dn + leastTo E J n r dn (wkf dn) k) ∧ (List.range k).flatMap f ≠ [] := by
      intro k
      induction k with
      | zero => intro _; exact .inl ⟨fun j h => by omega, rfl, rfl⟩
      | succ k ih =>
        intro hk
        have ih := ih (by omega)
        have hbs : bestOf F ((List.range (k + 1)).flatMap f) = (f k).foldl (stepB F) (bestOf F ((List.range k).flatMap f)) := by
          unfold bestOf
          rw [List.range_succ, List.flatMap_append, List.foldl_append]
          simp
        rw [hbs, leastTo_succ]
        by_cases hm : (k : Int) ∈ dn
        · have hfk : f k = [] := by rw [hf]; simp [hm]
          rw [if_pos hm, hfk, List.foldl_nil]
          have hfl : (List.range (k + 1)).flatMap f = (List.range k).flatMap f := by rw [List.range_succ, List.flatMap_append]; simp [hfk]
          rw [hfl]
          rcases ih with ⟨a1, a2, a3⟩ | ⟨i, b1, b2, b3, b4, b5, b6, b7, b8⟩
          · exact .inl ⟨fun j hj => by rcases (by omega : j < k ∨ j = k) with h | rfl; exact a1 j h; exact hm, a2, a3⟩
          · exact .inr ⟨i, by omega, b2, b3, b4, b5, fun j hj hjm => by rcases (by omega : j < k ∨ j = k) with h | rfl; exact b6 j h hjm; exact absurd hm hjm, b7, b8⟩
        · have hfk : f k = perms n r (dn ++ [(k : Int)]) := by rw [hf]; simp [hm]
          obtain ⟨s1, s2, s3⟩ := hs dn k hp (by omega) hm
          obtain ⟨q1, q2, q3, -⟩ := best_perms h0 hs r (dn ++ [(k : Int)]) (by simp; omega) (hp.snoc (by omega) hm)
          rw [s2] at q1 q2
          rw [s1] at q1
          have hv : vAt E J n r dn (wkf dn) k = (jAt J (k : Nat)).w * E (wkf dn + (jAt J (k : Nat)).d) + leastG E J n r (dn ++ [(k : Int)]) (wkf dn + (jAt J (k : Nat)).d) := rfl
          have hFd := h0 dn hp
          rw [if_neg hm, hfk, fold_from F _ _ (fun y hy => h0 y (perms_ok r _ y (hp.snoc (by omega) hm) (by simp; omega) hy).1) q3, q1, ← hv]
          have hne : (List.range (k + 1)).flatMap f ≠ [] := by
            rw [List.range_succ, List.flatMap_append]
            simp [hfk, q3]
          dsimp only
          right
          rcases ih with ⟨a1, a2, a3⟩ | ⟨i, b1, b2, b3, b4, b5, b6, b7, b8⟩
          · rw [a2, a3]
            have e : minB (-1) (vAt E J n r dn (wkf dn) k) = vAt E J n r dn (wkf dn) k := by unfold minB; rw [if_pos (Or.inl (by omega))]
            rw [e]
            refine ⟨k, by omega, hm, rfl, by omega, fun j hj hjm => absurd (a1 j hj) hjm, fun j hj hjm => ?_, ?_, hne⟩
            · rcases (by omega : j < k ∨ j = k) with h | rfl
              · exact absurd (a1 j h) hjm
              · exact Int.le_refl _
            · rw [if_pos (Or.inl (by show (-1 : Int) < 0; omega))]
              simp only [Prod.mk.injEq, true_and]
              omega
          · rw [b7]
            by_cases hlt : vAt E J n r dn (wkf dn) k < leastTo E J n r dn (wkf dn) k
            · have e : minB (leastTo E J n r dn (wkf dn) k) (vAt E J n r dn (wkf dn) k) = vAt E J n r dn (wkf dn) k := by unfold minB; rw [if_pos (Or.inr hlt)]
              rw [e, if_pos (Or.inr (by show _ < _; omega))]
              refine ⟨k, by omega, hm, rfl, by omega, fun j hj hjm => by have := b6 j hj hjm; omega, fun j hj hjm => ?_, ?_, hne⟩
              · rcases (by omega : j < k ∨ j = k) with h | rfl
                · have := b6 j h hjm; omega
                · exact Int.le_refl _
              · simp only [Prod.mk.injEq, true_and]
                omega
            · have e : minB (leastTo E J n r dn (wkf dn) k) (vAt E J n r dn (wkf dn) k) = leastTo E J n r dn (wkf dn) k := by unfold minB; rw [if_neg (by omega)]
              rw [e, if_neg (by show ¬ (_ < _ ∨ _ < _); omega)]
              refine ⟨i, by omega, b2, b3, b4, b5, fun j hj hjm => ?_, rfl, hne⟩
              rcases (by omega : j < k ∨ j = k) with h | rfl
              · exact b6 j h hjm
              · omega
    rcases key n (Nat.le_refl _) with ⟨a1, -, -⟩ | ⟨i, b1, b2, b3, b4, b5, b6, b7, b8⟩
    · obtain ⟨k, hk, hkm⟩ := pre_free (n := n) (dn := dn) (by omega)
      exact absurd (a1 k hk) hkm
    · have hfi : firstI E J n r dn (wkf dn) = i := by
        unfold firstI
        rw [find_first n i b1 (by rw [hT]; simp [b2, b3]) (fun j hj => by
          rw [hT]
          by_cases hjm : (j : Int) ∈ dn
          · simp [hjm]
          · have := b5 j hj hjm
            simp [hjm]; omega)]
        rfl
      refine ⟨?_, ?_, ?_, fun r' e => ?_⟩
      · rw [hpm, b7, hT]
        show _ = (gBest E J n r (dn ++ [(firstI E J n r dn (wkf dn) : Int)]) (wkf dn + (jAt J (firstI E J n r dn (wkf dn) : Nat)).d), _)
        rw [hfi]
      · rw [hT]; exact b4
      · rw [hpm]; exact b8
      · obtain rfl : r = r' := by omega
        rw [hfi, hT]
        exact ⟨b1, b2, b3, fun j hj hjm => by have := b5 j hj hjm; omega⟩
end Go.Proofs.Ytglncadfmomamaa
