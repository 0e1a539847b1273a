/- The best order is the first one of the least ones, in lexical order: plain. -/
import Derived.Test.YtglncadfmomamaaBest2
namespace Go.Proofs.Ytglncadfmomamaa
set_option linter.unusedVariables false
set_option linter.unusedSimpArgs false
/-- One list stands ahead of another one, as words do. -/
def lexlt : List Int → List Int → Prop
  | x :: a, y :: b => x < y ∨ (x = y ∧ lexlt a b)
  | _, _ => False
theorem lex_asym : ∀ a b : List Int, lexlt a b → ¬ lexlt b a
  | [], b, h => by unfold lexlt at h; exact h.elim
  | x :: a, [], h => by unfold lexlt at h; exact h.elim
  | x :: a, y :: b, h => by
    unfold lexlt at h ⊢
    rintro (h2 | ⟨h2, h3⟩)
    · omega
    · rcases h with h | ⟨_, h⟩
      · omega
      · exact lex_asym a b h h3
theorem lex_pre {x y : Int} (h : x < y) : ∀ (p a b : List Int), lexlt (p ++ x :: a) (p ++ y :: b)
  | [], a, b => by unfold lexlt; exact .inl h
  | z :: p, a, b => by unfold lexlt; exact .inr ⟨rfl, lex_pre h p a b⟩
theorem perms_pre {n : Nat} : ∀ (r : Nat) (dn y : List Int), y ∈ perms n r dn → ∃ tl, y = dn ++ tl
  | 0, dn, y, h => ⟨[], by unfold perms at h; simpa using h⟩
  | r + 1, dn, y, h => by
    unfold perms at h
    rw [List.mem_flatMap] at h
    obtain ⟨k, hk, hy⟩ := h
    split at hy
    · simp at hy
    · obtain ⟨tl, rfl⟩ := perms_pre r _ y hy
      exact ⟨(k : Int) :: tl, by simp⟩
theorem perms_lex {n : Nat} : ∀ (r : Nat) (dn : List Int), (perms n r dn).Pairwise lexlt
  | 0, dn => by unfold perms; simp
  | r + 1, dn => by
    unfold perms
    rw [List.pairwise_flatMap]
    refine ⟨fun k _ => ?_, ?_⟩
    · split
      · simp
      · exact perms_lex r _
    · refine List.Pairwise.imp (fun {a b} hab x hx y hy => ?_) List.pairwise_lt_range
      split at hx
      · simp at hx
      · split at hy
        · simp at hy
        · obtain ⟨t1, rfl⟩ := perms_pre r _ x hx
          obtain ⟨t2, rfl⟩ := perms_pre r _ y hy
          rw [List.append_assoc, List.append_assoc]
          exact lex_pre (by omega) dn t1 t2
theorem perms_mem {n : Nat} : ∀ (r : Nat) (dn tl : List Int), tl.length = r → PreOk n (dn ++ tl) → dn ++ tl ∈ perms n r dn
  | 0, dn, tl, hl, h => by
    obtain rfl : tl = [] := List.length_eq_zero_iff.1 hl
    unfold perms; simp
  | r + 1, dn, [], hl, h => by simp at hl
  | r + 1, dn, x :: tl, hl, h => by
    have hx := h.1 x (by simp)
    obtain ⟨k, rfl⟩ := Int.eq_ofNat_of_zero_le hx.1
    unfold perms
    rw [List.mem_flatMap]
    refine ⟨k, List.mem_range.2 (by omega), ?_⟩
    have hm : (k : Int) ∉ dn := fun hm => by
      have h2 := h.2
      rw [List.nodup_append] at h2
      exact h2.2.2 _ hm _ (by simp) rfl
    rw [if_neg hm]
    have := perms_mem r (dn ++ [(k : Int)]) tl (by simpa using hl) (by simpa using h)
    simpa using this
/-- The least one, and the first of its like. -/
def Least (F : List Int → Int) (P : List (List Int)) (s : List Int × Int) : Prop := s.1 ∈ P ∧ s.2 = F s.1 ∧ ∀ y, y ∈ P → F s.1 ≤ F y ∧ (F y = F s.1 → y = s.1 ∨ lexlt s.1 y)
theorem least_fold (F : List Int → Int) : ∀ (L P : List (List Int)) (s : List Int × Int), (P ++ L).Pairwise lexlt → (∀ y, y ∈ P ++ L → 0 ≤ F y) → Least F P s → Least F (P ++ L) (L.foldl (stepB F) s)
  | [], P, s, _, _, h => by simpa using h
  | x :: L, P, s, hp, h0, h => by
    rw [List.foldl_cons, show P ++ x :: L = (P ++ [x]) ++ L by simp]
    rw [show P ++ x :: L = (P ++ [x]) ++ L by simp] at hp h0
    refine least_fold F L (P ++ [x]) _ hp h0 ?_
    obtain ⟨h1, h2, h3⟩ := h
    have hs := h0 s.1 (by simp [h1])
    have hp2 := (List.pairwise_append.1 hp).1
    have hRx := (List.pairwise_append.1 hp2).2.2
    unfold stepB
    by_cases hx : F x < s.2
    · rw [if_pos (Or.inr hx)]
      refine ⟨by simp, rfl, fun y hy => ?_⟩
      show F x ≤ F y ∧ (F y = F x → y = x ∨ lexlt x y)
      rcases List.mem_append.1 hy with hy | hy
      · have := (h3 y hy).1
        exact ⟨by omega, fun e => by omega⟩
      · obtain rfl : y = x := by simpa using hy
        exact ⟨Int.le_refl _, fun _ => .inl rfl⟩
    · rw [if_neg (by omega)]
      refine ⟨by simp [h1], h2, fun y hy => ?_⟩
      rcases List.mem_append.1 hy with hy | hy
      · exact h3 y hy
      · obtain rfl : y = x := by simpa using hy
        exact ⟨by omega, fun _ => .inr (hRx _ h1 _ (by simp))⟩
theorem best_first (F : List Int → Int) (L : List (List Int)) (hne : L ≠ []) (hp : L.Pairwise lexlt) (h0 : ∀ y, y ∈ L → 0 ≤ F y) : Least F L (bestOf F L) := by
  cases L with
  | nil => exact absurd rfl hne
  | cons x L =>
    unfold bestOf
    rw [List.foldl_cons]
    have e : stepB F ([], -1) x = (x, F x) := by unfold stepB; rw [if_pos (Or.inl (by show (-1 : Int) < 0; omega))]
    rw [e]
    refine least_fold F L [x] _ hp h0 ⟨by simp, rfl, fun y hy => ?_⟩
    obtain rfl : y = x := by simpa using hy
    exact ⟨Int.le_refl _, fun _ => .inl rfl⟩
/-- The plan of PlanBest. -/
def bestP (l : List UInt8) (J : List Jb) : List Int := (bestOf (lossV l J) (perms J.length J.length [])).1
theorem bestP_least {l : List UInt8} {J : List Jb} (h : planV l J = true) : planInV l J (bestP l J) = true ∧ 0 ≤ lossV l J (bestP l J) ∧ ∀ y, planInV l J y = true → lossV l J (bestP l J) ≤ lossV l J y ∧ (lossV l J y = lossV l J (bestP l J) → y = bestP l J ∨ lexlt (bestP l J) y) := by
  have hf := (best_fit h).1
  have hmem : ∀ y, PreOk J.length y → y.length = J.length → y ∈ perms J.length J.length [] := fun y h1 h2 => by
    have := perms_mem J.length [] y h2 (by simpa using h1)
    simpa using this
  have hin : ∀ y, y ∈ perms J.length J.length [] → PreOk J.length y ∧ y.length = J.length := fun y hy => perms_ok J.length [] y ⟨by simp, by simp⟩ (by simp) hy
  have hne : perms J.length J.length [] ≠ [] := fun e => by
    have := hmem _ (range_ok J.length) (by simp)
    rw [e] at this
    simp at this
  obtain ⟨h1, h2, h3⟩ := best_first (lossV l J) (perms J.length J.length []) hne (perms_lex _ _) (fun y hy => hf y (hin y hy).1)
  obtain ⟨p1, p2⟩ := hin _ h1
  refine ⟨planIn_any' h p1 p2, hf _ p1, fun y hy => ?_⟩
  have hyl : y.length = J.length := (planIn_fit hy).2.2.2.2.1
  have hyp := permB_spec (planIn_fit hy).2.2.2.2.2
  exact h3 y (hmem y ⟨fun x hx => by have := hyp.1 x hx; rw [hyl] at this; exact this, hyp.2⟩ hyl)
/-- Two neighbours change places. -/
theorem best_swap {l : List UInt8} {J : List Jb} (h : planV l J = true) (p t : List Int) (x y : Int) (he : bestP l J = p ++ x :: y :: t) (hz : planInV l J (p ++ y :: x :: t) = true) :
    ¬ (lossV l J (p ++ y :: x :: t) < lossV l J (bestP l J)) ∧ ¬ (lossV l J (p ++ y :: x :: t) = lossV l J (bestP l J) ∧ y < x) := by
  obtain ⟨_, _, h3⟩ := bestP_least h
  obtain ⟨h4, h5⟩ := h3 _ hz
  refine ⟨by omega, fun ⟨e, hyx⟩ => ?_⟩
  have hl : lexlt (p ++ y :: x :: t) (bestP l J) := by rw [he]; exact lex_pre hyx p _ _
  rcases h5 e with h6 | h6
  · rw [h6] at hl
    exact lex_asym _ _ hl hl
  · exact lex_asym _ _ hl h6
end Go.Proofs.Ytglncadfmomamaa
