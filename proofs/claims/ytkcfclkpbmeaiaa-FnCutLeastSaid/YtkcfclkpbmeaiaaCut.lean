/- Sides, least cuts, lines left out: plain numbers. -/
import Derived.Test.YtkcfclkpbmeaiaaWay
namespace Go.Proofs.Ytkcfclkpbmeaiaa
set_option linter.unusedVariables false
set_option linter.unusedSimpArgs false
/-- t is the least cut between p and q. -/
structure MinCut (L : List Ln) (p q t : Int) : Prop where
  ex : ∃ S : Int → Bool, S p = true ∧ S q = false ∧ cutVal S L = t
  le : ∀ S : Int → Bool, S p = true → S q = false → t ≤ cutVal S L
theorem Most.minCut {L : List Ln} {n p q : Nat} {f : List Int} {t : Nat} (h : Most L n p q f t) (hL : netIn n L) (hp : p < n) : MinCut L p q t :=
  ⟨h.cut, fun _ h1 h2 => h.le_cut hL hp h1 h2⟩
theorem MinCut.uniq {L : List Ln} {p q t u : Int} (h : MinCut L p q t) (k : MinCut L p q u) : t = u := by
  obtain ⟨S, a1, a2, a3⟩ := h.ex
  obtain ⟨R, b1, b2, b3⟩ := k.ex
  have := h.le R b1 b2
  have := k.le S a1 a2
  omega
theorem MinCut.symm {L : List Ln} {p q t : Int} (h : MinCut L p q t) : MinCut L q p t := by
  refine ⟨?_, fun S h1 h2 => ?_⟩
  · obtain ⟨S, a1, a2, a3⟩ := h.ex
    exact ⟨fun s => !S s, by simp [a2], by simp [a1], by rw [cutVal_not]; exact a3⟩
  · rw [← cutVal_not]; exact h.le _ (by simp [h2]) (by simp [h1])
theorem MinCut.tri {L : List Ln} {a b c x y z : Int} (hx : MinCut L a b x) (hy : MinCut L b c y) (hz : MinCut L a c z) : min y z ≤ x := by
  obtain ⟨S, h1, h2, h3⟩ := hx.ex
  cases hc : S c with
  | false => have := hz.le S h1 hc; omega
  | true =>
    have := hy.symm.le S hc h2; omega
theorem cutVal_erase (S : Int → Bool) {L : List Ln} {k : Nat} {l : Ln} (h : L[k]? = some l) : cutVal S L = cutVal S (L.eraseIdx k) + cutTerm S l := by
  induction L generalizing k with
  | nil => simp at h
  | cons l' L ih => cases k with
    | zero => simp at h; subst h; simp [cutVal]; omega
    | succ k => rw [List.eraseIdx_cons_succ, cutVal, cutVal, ih (by simpa using h)]; omega
theorem outAt_erase {L : List Ln} {f : List Int} {k : Nat} {l : Ln} {x : Int} (s : Int) (h : L[k]? = some l) (hx : f[k]? = some x) : outAt L f s = outAt (L.eraseIdx k) (f.eraseIdx k) s + outTerm l x s := by
  induction L generalizing k f with
  | nil => simp at h
  | cons l' L ih => cases f with
    | nil => simp at hx
    | cons x' f => cases k with
      | zero => simp at h hx; subst h hx; simp [outAt]; omega
      | succ k => rw [List.eraseIdx_cons_succ, List.eraseIdx_cons_succ, outAt, outAt, ih (by simpa using h) (by simpa using hx)]; omega
theorem caps_erase {L : List Ln} {f : List Int} (h : caps L f) (k : Nat) : caps (L.eraseIdx k) (f.eraseIdx k) := by
  induction L generalizing k f with
  | nil => simp; cases f.eraseIdx k <;> exact trivial
  | cons l L ih => cases f with
    | nil => simp; cases (l :: L).eraseIdx k <;> exact trivial
    | cons x f => cases k with
      | zero => simpa using h.2
      | succ k => rw [List.eraseIdx_cons_succ, List.eraseIdx_cons_succ]; exact ⟨h.1, ih h.2 k⟩
theorem netIn.erase {n : Nat} {L : List Ln} (h : netIn n L) (k : Nat) : netIn n (L.eraseIdx k) := fun l hl => h l (List.mem_of_mem_eraseIdx hl)
theorem cutTerm_bound {n : Nat} {L : List Ln} (h : netIn n L) (S : Int → Bool) {l : Ln} (hl : l ∈ L) : 0 ≤ cutTerm S l ∧ cutTerm S l ≤ l.c := by
  have := h l hl
  unfold cutTerm; split <;> omega
theorem MinCut.without {n : Nat} {L : List Ln} (hL : netIn n L) {p q t u : Int} {k : Nat} {l : Ln} (hl : L[k]? = some l) (h : MinCut L p q t) (h' : MinCut (L.eraseIdx k) p q u) : 0 ≤ t - u ∧ t - u ≤ l.c := by
  obtain ⟨S, a1, a2, a3⟩ := h.ex
  obtain ⟨R, b1, b2, b3⟩ := h'.ex
  have h1 := h.le R b1 b2
  have h2 := h'.le S a1 a2
  have hm := List.mem_of_getElem? hl
  have c1 := cutTerm_bound hL S hm
  have c2 := cutTerm_bound hL R hm
  rw [cutVal_erase S hl] at a3
  rw [cutVal_erase R hl] at h1
  omega
theorem MinCut.own {n : Nat} {L : List Ln} (hL : netIn n L) {t u : Int} {k : Nat} {l : Ln} (hl : L[k]? = some l) (h : MinCut L l.a l.b t) (h' : MinCut (L.eraseIdx k) l.a l.b u) : t - u = l.c := by
  obtain ⟨S, a1, a2, a3⟩ := h.ex
  obtain ⟨R, b1, b2, b3⟩ := h'.ex
  have h1 := h.le R b1 b2
  have h2 := h'.le S a1 a2
  rw [cutVal_erase S hl] at a3
  rw [cutVal_erase R hl] at h1
  have e : ∀ T : Int → Bool, T l.a = true → T l.b = false → cutTerm T l = l.c := fun T x y => by unfold cutTerm; rw [x, y]; rfl
  rw [e S a1 a2] at a3
  rw [e R b1 b2] at h1
  omega
/-- A line of a least cut is wanted. -/
theorem MinCut.needed {n : Nat} {L : List Ln} (hL : netIn n L) {p q t u : Int} {k : Nat} {l : Ln} (hl : L[k]? = some l) (h' : MinCut (L.eraseIdx k) p q u) {S : Int → Bool} (h1 : S p = true) (h2 : S q = false) (hS : cutVal S L = t) (hne : S l.a ≠ S l.b) : u < t := by
  have h3 := h'.le S h1 h2
  rw [cutVal_erase S hl] at hS
  have : cutTerm S l = l.c := by unfold cutTerm; rw [if_neg hne]
  have := hL l (List.mem_of_getElem? hl)
  omega
/-- A line that a greatest load leaves alone is not wanted. -/
theorem Most.idle {L : List Ln} {n p q : Nat} {f : List Int} {t : Nat} {u : Int} (h : Most L n p q f t) (hL : netIn n L) (hp : p < n) {k : Nat} {l : Ln} (hl : L[k]? = some l) (hx : f[k]? = some 0) (h' : MinCut (L.eraseIdx k) p q u) : (t : Int) ≤ u := by
  obtain ⟨S, a1, a2, a3⟩ := h'.ex
  have e : ∀ s, outAt L f s = outAt (L.eraseIdx k) (f.eraseIdx k) s := fun s => by
    rw [outAt_erase s hl hx, outTerm]; split <;> split <;> omega
  have h1 := out_le_cut (hL.erase k) (by omega) (by omega) (fun s hs e1 e2 => by rw [← e]; exact h.run.keep s hs e1 e2) (caps_erase h.run.caps k) a1 a2
  rw [← e, h.run.out] at h1; omega
/-- The side that a number's bits tell. -/
def sideB (m : Nat) : Int → Bool := fun s => m.testBit s.toNat
def bitsOf (S : Int → Bool) : Nat → Nat
  | 0 => 0
  | n + 1 => 2 ^ n * (if S n then 1 else 0) + bitsOf S n
theorem bitsOf_lt (S : Int → Bool) (n : Nat) : bitsOf S n < 2 ^ n := by
  induction n with
  | zero => simp [bitsOf]
  | succ n ih => rw [bitsOf, Nat.pow_succ]; split <;> omega
theorem bitsOf_test (S : Int → Bool) (n i : Nat) (h : i < n) : (bitsOf S n).testBit i = S i := by
  induction n with
  | zero => omega
  | succ n ih =>
    rw [bitsOf]
    have hlt := bitsOf_lt S n
    by_cases e : i = n
    · subst e
      cases hS : S i with
      | false => rw [if_neg (by simp), Nat.mul_zero, Nat.zero_add]; exact Nat.testBit_lt_two_pow hlt
      | true => rw [if_pos rfl, Nat.mul_one, Nat.testBit_two_pow_add_eq, Nat.testBit_lt_two_pow hlt]; rfl
    · cases hS : S n with
      | false => rw [if_neg (by simp), Nat.mul_zero, Nat.zero_add]; exact ih (by omega)
      | true => rw [if_pos rfl, Nat.mul_one, Nat.testBit_two_pow_add_gt (by omega)]; exact ih (by omega)
theorem cutVal_bits {n : Nat} {L : List Ln} (hL : netIn n L) (S : Int → Bool) : cutVal (sideB (bitsOf S n)) L = cutVal S L :=
  cutVal_congr fun l hl => by
    have h := hL l hl
    unfold sideB
    rw [bitsOf_test S n _ (by omega), bitsOf_test S n _ (by omega), Int.toNat_of_nonneg h.1, Int.toNat_of_nonneg h.2.2.1]
    exact ⟨rfl, rfl⟩
/-- Does a number tell a side with p and without q? -/
def okSide (p q m : Nat) : Bool := m.testBit p && !m.testBit q
/-- The least cut among the first k numbers. -/
def leastTo (L : List Ln) (p q : Nat) : Nat → Option Nat
  | 0 => none
  | k + 1 => if okSide p q k then match leastTo L p q k with
      | none => some k
      | some b => if cutVal (sideB k) L < cutVal (sideB b) L then some k else some b
    else leastTo L p q k
theorem leastTo_some {L : List Ln} {p q k b : Nat} (h : leastTo L p q k = some b) : b < k ∧ okSide p q b = true ∧ ∀ m, m < k → okSide p q m = true → cutVal (sideB b) L ≤ cutVal (sideB m) L := by
  induction k generalizing b with
  | zero => cases h
  | succ k ih =>
    rw [leastTo] at h
    cases hk : okSide p q k with
    | false =>
      rw [hk, if_neg (by simp)] at h
      obtain ⟨h1, h2, h3⟩ := ih h
      refine ⟨by omega, h2, fun m hm hok => ?_⟩
      rcases (by omega : m < k ∨ m = k) with e | rfl
      · exact h3 m e hok
      · rw [hk] at hok; cases hok
    | true =>
      rw [hk, if_pos rfl] at h
      cases hl : leastTo L p q k with
      | none =>
        rw [hl] at h
        injection h with h; subst h
        refine ⟨by omega, hk, fun m hm hok => ?_⟩
        rcases (by omega : m < k ∨ m = k) with e | rfl
        · exfalso
          have hn : ∀ j, leastTo L p q j = none → ∀ m, m < j → okSide p q m = false := fun j => by
            induction j with
            | zero => intro _ m hm; omega
            | succ j ih2 =>
              intro hj m hm
              rw [leastTo] at hj
              cases hoj : okSide p q j with
              | true =>
                rw [hoj, if_pos rfl] at hj
                cases hlj : leastTo L p q j with
                | none => rw [hlj] at hj; cases hj
                | some c => rw [hlj] at hj; simp only at hj; split at hj <;> cases hj
              | false =>
                rw [hoj, if_neg (by simp)] at hj
                rcases (by omega : m < j ∨ m = j) with e | rfl
                · exact ih2 hj m e
                · exact hoj
          rw [hn k hl m e] at hok; cases hok
        · exact Int.le_refl _
      | some c =>
        rw [hl] at h
        obtain ⟨h1, h2, h3⟩ := ih hl
        simp only at h
        split at h
        · injection h with h; subst h
          refine ⟨by omega, hk, fun m hm hok => ?_⟩
          rcases (by omega : m < k ∨ m = k) with e | rfl
          · have := h3 m e hok; omega
          · exact Int.le_refl _
        · injection h with h; subst h
          refine ⟨by omega, h2, fun m hm hok => ?_⟩
          rcases (by omega : m < k ∨ m = k) with e | rfl
          · exact h3 m e hok
          · omega
theorem leastTo_has {L : List Ln} {p q k m : Nat} (hm : m < k) (hok : okSide p q m = true) : ∃ b, leastTo L p q k = some b := by
  induction k with
  | zero => omega
  | succ k ih =>
    rw [leastTo]
    cases hk : okSide p q k with
    | true =>
      rw [if_pos rfl]
      cases leastTo L p q k with
      | none => exact ⟨k, rfl⟩
      | some c => simp only; split <;> exact ⟨_, rfl⟩
    | false =>
      rw [if_neg (by simp)]
      rcases (by omega : m < k ∨ m = k) with e | rfl
      · exact ih e
      · rw [hk] at hok; cases hok
theorem least_is {n : Nat} {L : List Ln} (hL : netIn n L) {p q : Nat} (hp : p < n) (hq : q < n) (hpq : p ≠ q) : ∃ b, leastTo L p q (2 ^ n) = some b ∧ b < 2 ^ n ∧ b.testBit p = true ∧ b.testBit q = false ∧ ∀ S : Int → Bool, S p = true → S q = false → cutVal (sideB b) L ≤ cutVal S L := by
  have key : ∀ S : Int → Bool, S p = true → S q = false → okSide p q (bitsOf S n) = true := fun S h1 h2 => by
    unfold okSide; rw [bitsOf_test S n p hp, bitsOf_test S n q hq, h1, h2]; rfl
  obtain ⟨b, hb⟩ := leastTo_has (L := L) (bitsOf_lt (fun s => s == (p : Int)) n) (key _ (by simp) (by simp; omega))
  obtain ⟨h1, h2, h3⟩ := leastTo_some hb
  unfold okSide at h2
  rw [Bool.and_eq_true] at h2
  exact ⟨b, hb, h1, h2.1, by simpa using h2.2, fun S a1 a2 => by rw [← cutVal_bits hL S]; exact h3 _ (bitsOf_lt S n) (key S a1 a2)⟩
/-- The first place of the least of g. -/
def firstMin (g : Nat → Int) : Nat → Nat
  | 0 => 0
  | k + 1 => if g k < g (firstMin g k) then k else firstMin g k
theorem firstMin_ok (g : Nat → Int) (k : Nat) (hk : 1 ≤ k) : firstMin g k < k ∧ (∀ j, j < k → g (firstMin g k) ≤ g j) ∧ ∀ j, j < firstMin g k → g (firstMin g k) < g j := by
  induction k with
  | zero => omega
  | succ k ih =>
    rw [firstMin]
    by_cases h0 : k = 0
    · subst h0
      have : firstMin g 0 = 0 := rfl
      rw [this, if_neg (by omega)]
      exact ⟨by omega, fun j hj => by obtain rfl : j = 0 := by omega
                                      exact Int.le_refl _, fun j hj => by omega⟩
    · obtain ⟨h1, h2, h3⟩ := ih (by omega)
      by_cases h : g k < g (firstMin g k)
      · rw [if_pos h]
        refine ⟨by omega, fun j hj => ?_, fun j hj => ?_⟩
        · rcases (by omega : j < k ∨ j = k) with e | rfl
          · have := h2 j e; omega
          · exact Int.le_refl _
        · have := h2 j hj; omega
      · rw [if_neg h]
        refine ⟨by omega, fun j hj => ?_, h3⟩
        rcases (by omega : j < k ∨ j = k) with e | rfl
        · exact h2 j e
        · omega
theorem firstMin_uniq {g : Nat → Int} {k i : Nat} (hi : i < k) (h1 : ∀ j, j < k → g i ≤ g j) (h2 : ∀ j, j < i → g i < g j) : firstMin g k = i := by
  obtain ⟨a1, a2, a3⟩ := firstMin_ok g k (by omega)
  rcases Nat.lt_trichotomy (firstMin g k) i with h | h | h
  · have := h2 _ h; have := a2 i hi; omega
  · exact h
  · have := a3 _ h; have := h1 _ a1; omega
end Go.Proofs.Ytkcfclkpbmeaiaa
