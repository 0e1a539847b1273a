/- Lines, loads, ways and cuts, in plain numbers: no word of the program. -/
import Derived.WalkKit
namespace Go.Proofs.Ytkcfclkpbmeaiaa
set_option linter.unusedVariables false
set_option linter.unusedSimpArgs false
/-- A line: its two stations, its channels. -/
structure Ln where
  a : Int
  b : Int
  c : Int
def ln0 : Ln := ⟨0, 0, 0⟩
/-- What a line with load x adds to what goes out of station s. -/
def outTerm (l : Ln) (x s : Int) : Int := (if l.a = s then x else 0) - (if l.b = s then x else 0)
def outAt : List Ln → List Int → Int → Int
  | l :: L, x :: f, s => outTerm l x s + outAt L f s
  | _, _, _ => 0
theorem outAt_nil (f : List Int) (s : Int) : outAt [] f s = 0 := by unfold outAt; rfl
theorem outAt_nil2 (L : List Ln) (s : Int) : outAt L [] s = 0 := by cases L <;> rfl
theorem outAt_take {L : List Ln} {f : List Int} {k : Nat} {l : Ln} {x : Int} (s : Int) (hl : L[k]? = some l) (hx : f[k]? = some x) :
    outAt (L.take (k + 1)) (f.take (k + 1)) s = outAt (L.take k) (f.take k) s + outTerm l x s := by
  induction k generalizing L f with
  | zero =>
    cases L with
    | nil => simp at hl
    | cons l' L => cases f with
      | nil => simp at hx
      | cons x' f => simp at hl hx; subst hl hx; simp [outAt, outAt_nil]
  | succ k ih =>
    cases L with
    | nil => simp at hl
    | cons l' L => cases f with
      | nil => simp at hx
      | cons x' f =>
        have := ih (by simpa using hl) (by simpa using hx)
        simp only [List.take_succ_cons, outAt] at this ⊢
        rw [this]; omega
theorem outAt_set {L : List Ln} {f : List Int} {k : Nat} {l : Ln} {x : Int} (y s : Int) (hl : L[k]? = some l) (hx : f[k]? = some x) :
    outAt L (f.set k y) s = outAt L f s + (outTerm l y s - outTerm l x s) := by
  induction k generalizing L f with
  | zero =>
    cases L with
    | nil => simp at hl
    | cons l' L => cases f with
      | nil => simp at hx
      | cons x' f => simp at hl hx; subst hl hx; simp only [List.set_cons_zero, outAt]; omega
  | succ k ih =>
    cases L with
    | nil => simp at hl
    | cons l' L => cases f with
      | nil => simp at hx
      | cons x' f =>
        have := ih (by simpa using hl) (by simpa using hx)
        simp only [List.set_cons_succ, outAt]
        rw [this]; omega
theorem outAt_zero (L : List Ln) (s : Int) (n : Nat) : outAt L (List.replicate n 0) s = 0 := by
  induction L generalizing n with
  | nil => exact outAt_nil _ _
  | cons l L ih =>
    cases n with
    | zero => exact outAt_nil2 _ _
    | succ n => rw [List.replicate_succ, outAt, ih, outTerm]; split <;> split <;> rfl
/-- The cut of a side. -/
def cutTerm (S : Int → Bool) (l : Ln) : Int := if S l.a = S l.b then 0 else l.c
def cutVal (S : Int → Bool) : List Ln → Int
  | [] => 0
  | l :: L => cutTerm S l + cutVal S L
theorem cutVal_take (S : Int → Bool) {L : List Ln} {k : Nat} {l : Ln} (hl : L[k]? = some l) : cutVal S (L.take (k + 1)) = cutVal S (L.take k) + cutTerm S l := by
  induction k generalizing L with
  | zero => cases L with
    | nil => simp at hl
    | cons l' L => simp at hl; subst hl; simp [cutVal]
  | succ k ih => cases L with
    | nil => simp at hl
    | cons l' L =>
      have := ih (L := L) (by simpa using hl)
      simp only [List.take_succ_cons, cutVal] at this ⊢
      rw [this]; omega
theorem cutVal_congr {S S' : Int → Bool} {L : List Ln} (h : ∀ l, l ∈ L → S l.a = S' l.a ∧ S l.b = S' l.b) : cutVal S L = cutVal S' L := by
  induction L with
  | nil => rfl
  | cons l L ih =>
    have h1 := h l (by simp)
    rw [cutVal, cutVal, ih (fun l hl => h l (by simp [hl])), cutTerm, cutTerm, h1.1, h1.2]
theorem cutVal_not (S : Int → Bool) (L : List Ln) : cutVal (fun s => !S s) L = cutVal S L := by
  induction L with
  | nil => rfl
  | cons l L ih => rw [cutVal, cutVal, ih, cutTerm, cutTerm]; cases S l.a <;> cases S l.b <;> rfl
/-- A list of lines between n stations. -/
def netIn (n : Nat) (L : List Ln) : Prop := ∀ l, l ∈ L → 0 ≤ l.a ∧ l.a < n ∧ 0 ≤ l.b ∧ l.b < n ∧ l.a ≠ l.b ∧ 1 ≤ l.c ∧ l.c ≤ 9
theorem netIn.tail {n : Nat} {l : Ln} {L : List Ln} (h : netIn n (l :: L)) : netIn n L := fun l hl => h l (by simp [hl])
theorem cutVal_bound {n : Nat} {L : List Ln} (h : netIn n L) (S : Int → Bool) : 0 ≤ cutVal S L ∧ cutVal S L ≤ 9 * L.length := by
  induction L with
  | nil => simp [cutVal]
  | cons l L ih =>
    have h1 := h l (by simp)
    have := ih h.tail
    rw [cutVal, cutTerm, List.length_cons]
    split <;> omega
/-- Sums over a side. -/
def sumS (S : Int → Bool) (g : Int → Int) : Nat → Int
  | 0 => 0
  | n + 1 => sumS S g n + if S n then g n else 0
theorem sumS_add (S : Int → Bool) (g h : Int → Int) (n : Nat) : sumS S (fun s => g s + h s) n = sumS S g n + sumS S h n := by
  induction n with
  | zero => rfl
  | succ n ih => simp only [sumS]; rw [ih]; split <;> omega
theorem sumS_zero (S : Int → Bool) (n : Nat) : sumS S (fun _ => 0) n = 0 := by
  induction n with
  | zero => rfl
  | succ n ih => simp only [sumS]; rw [ih]; split <;> rfl
theorem sumS_far (S : Int → Bool) (p x : Int) (n : Nat) (h : (n : Int) ≤ p) : sumS S (fun s => if p = s then x else 0) n = 0 := by
  induction n with
  | zero => rfl
  | succ n ih => simp only [sumS]; rw [ih (by omega), if_neg (by omega : ¬ p = (n : Int))]; split <;> rfl
theorem sumS_one (S : Int → Bool) (p x : Int) (n : Nat) (h0 : 0 ≤ p) (h : p < (n : Int)) : sumS S (fun s => if p = s then x else 0) n = if S p then x else 0 := by
  induction n with
  | zero => omega
  | succ n ih =>
    simp only [sumS]
    by_cases hp : p = (n : Int)
    · subst hp; rw [sumS_far S _ x n (Int.le_refl _), if_pos rfl, Int.zero_add]
    · rw [ih (by omega), if_neg hp]; split <;> split <;> omega
theorem sumS_neg (S : Int → Bool) (g : Int → Int) (n : Nat) : sumS S (fun s => - g s) n = - sumS S g n := by
  induction n with
  | zero => rfl
  | succ n ih => simp only [sumS]; rw [ih]; split <;> omega
theorem sumS_congr {S : Int → Bool} {g h : Int → Int} {n : Nat} (e : ∀ s : Nat, s < n → S s = true → g s = h s) : sumS S g n = sumS S h n := by
  induction n with
  | zero => rfl
  | succ n ih =>
    simp only [sumS]
    rw [ih (fun s hs => e s (by omega))]
    cases hS : S n with
    | false => simp
    | true => rw [e n (by omega) hS]
theorem sumS_only {S : Int → Bool} {g : Int → Int} {n : Nat} (p : Int) (h0 : 0 ≤ p) (h : p < (n : Int)) (hS : S p = true) (hz : ∀ s : Nat, s < n → S s = true → (s : Int) ≠ p → g s = 0) : sumS S g n = g p := by
  rw [sumS_congr (h := fun s => if p = s then g p else 0), sumS_one S p (g p) n h0 h, if_pos hS]
  intro s hs hSs
  by_cases e : p = (s : Int)
  · simp only [if_pos e]; rw [e]
  · simp only [if_neg e]; exact hz s hs hSs (fun h => e h.symm)
/-- What goes from a side to the other one. -/
def crossTerm (S : Int → Bool) (l : Ln) (x : Int) : Int := (if S l.a then x else 0) - (if S l.b then x else 0)
def cross (S : Int → Bool) : List Ln → List Int → Int
  | l :: L, x :: f => crossTerm S l x + cross S L f
  | _, _ => 0
theorem sumS_out (S : Int → Bool) {n : Nat} {L : List Ln} (hL : netIn n L) (f : List Int) : sumS S (outAt L f) n = cross S L f := by
  induction L generalizing f with
  | nil =>
    have : outAt [] f = fun _ => 0 := funext fun s => outAt_nil f s
    rw [this, sumS_zero]; rfl
  | cons l L ih =>
    cases f with
    | nil =>
      have : outAt (l :: L) [] = fun _ => 0 := funext fun s => outAt_nil2 _ s
      rw [this, sumS_zero]; rfl
    | cons x f =>
      have h1 := hL l (by simp)
      have e : outAt (l :: L) (x :: f) = fun s => (if l.a = s then x else 0) + ((- if l.b = s then x else 0) + outAt L f s) := funext fun s => by rw [outAt, outTerm]; omega
      rw [e, sumS_add, sumS_add, sumS_neg, sumS_one S _ x n h1.1 h1.2.1, sumS_one S _ x n h1.2.2.1 h1.2.2.2.1, ih hL.tail, cross, crossTerm]; omega
/-- Every load within its line's channels. -/
def caps : List Ln → List Int → Prop
  | l :: L, x :: f => (-l.c ≤ x ∧ x ≤ l.c) ∧ caps L f
  | _, _ => True
theorem caps_get {L : List Ln} {f : List Int} (h : caps L f) {k : Nat} {l : Ln} {x : Int} (hl : L[k]? = some l) (hx : f[k]? = some x) : -l.c ≤ x ∧ x ≤ l.c := by
  induction k generalizing L f with
  | zero => cases L with
    | nil => simp at hl
    | cons l' L => cases f with
      | nil => simp at hx
      | cons x' f => simp at hl hx; subst hl hx; exact h.1
  | succ k ih => cases L with
    | nil => simp at hl
    | cons l' L => cases f with
      | nil => simp at hx
      | cons x' f => exact ih h.2 (by simpa using hl) (by simpa using hx)
theorem caps_mk {L : List Ln} {f : List Int} (h : ∀ (k : Nat) (l : Ln) (x : Int), L[k]? = some l → f[k]? = some x → -l.c ≤ x ∧ x ≤ l.c) : caps L f := by
  induction L generalizing f with
  | nil => cases f <;> exact trivial
  | cons l L ih => cases f with
    | nil => exact trivial
    | cons x f => exact ⟨h 0 l x rfl rfl, ih fun k l x hl hx => h (k + 1) l x (by simpa using hl) (by simpa using hx)⟩
theorem caps_set {L : List Ln} {f : List Int} (h : caps L f) {k : Nat} {l : Ln} {y : Int} (hl : L[k]? = some l) (hy : -l.c ≤ y ∧ y ≤ l.c) : caps L (f.set k y) := by
  refine caps_mk fun j l' x hl' hx => ?_
  by_cases e : k = j
  · subst e
    rw [hl] at hl'; injection hl' with hl'; subst hl'
    have hk : k < f.length := by
      rcases Nat.lt_or_ge k f.length with h | h
      · exact h
      · rw [List.getElem?_eq_none (by simpa using h)] at hx; cases hx
    rw [List.getElem?_set_self hk] at hx; injection hx with hx; subst hx; exact hy
  · rw [List.getElem?_set_ne e] at hx; exact caps_get h hl' hx
theorem caps_zero {n : Nat} {L : List Ln} (h : netIn n L) (m : Nat) : caps L (List.replicate m 0) :=
  caps_mk fun k l x hl hx => by
    have := h l (List.mem_of_getElem? hl)
    have hx' := List.mem_of_getElem? hx
    rw [List.mem_replicate] at hx'
    omega
theorem cross_le {S : Int → Bool} {L : List Ln} {f : List Int} {n : Nat} (hL : netIn n L) (h : caps L f) : cross S L f ≤ cutVal S L := by
  induction L generalizing f with
  | nil => cases f <;> exact Int.le_refl _
  | cons l L ih => cases f with
    | nil => exact (cutVal_bound hL S).1
    | cons x f =>
      have h1 := ih hL.tail h.2
      have h2 := h.1
      have h3 := hL l (by simp)
      rw [cross, cutVal, crossTerm, cutTerm]
      cases S l.a <;> cases S l.b <;> simp <;> omega
/-- A load that fills a cut. -/
theorem cross_full {S : Int → Bool} {L : List Ln} {f : List Int} (hlen : f.length = L.length)
    (h : ∀ (k : Nat) (l : Ln) (x : Int), L[k]? = some l → f[k]? = some x → (S l.a = true → S l.b = false → x = l.c) ∧ (S l.a = false → S l.b = true → x = -l.c)) : cross S L f = cutVal S L := by
  induction L generalizing f with
  | nil => cases f with
    | nil => rfl
    | cons x f => simp at hlen
  | cons l L ih => cases f with
    | nil => simp at hlen
    | cons x f =>
      have h0 := h 0 l x rfl rfl
      rw [cross, cutVal, ih (by simpa using hlen) fun k l x hl hx => h (k + 1) l x (by simpa using hl) (by simpa using hx), crossTerm, cutTerm]
      cases ha : S l.a <;> cases hb : S l.b <;> simp
      · have := h0.2 ha hb; omega
      · have := h0.1 ha hb; omega
theorem cross_eq {S : Int → Bool} {L : List Ln} {f : List Int} {n : Nat} (hL : netIn n L) (h : caps L f) (he : cross S L f = cutVal S L) {k : Nat} {l : Ln} {x : Int} (hl : L[k]? = some l) (hx : f[k]? = some x) :
    (S l.a = true → S l.b = false → x = l.c) ∧ (S l.a = false → S l.b = true → x = -l.c) := by
  induction k generalizing L f with
  | zero => cases L with
    | nil => simp at hl
    | cons l' L => cases f with
      | nil => simp at hx
      | cons x' f =>
        simp at hl hx; subst hl hx
        have h1 := cross_le (S := S) hL.tail h.2
        have h2 := h.1
        rw [cross, cutVal, crossTerm, cutTerm] at he
        constructor
        · intro ha hb; rw [ha, hb] at he; simp at he; omega
        · intro ha hb; rw [ha, hb] at he; simp at he; omega
  | succ k ih => cases L with
    | nil => simp at hl
    | cons l' L => cases f with
      | nil => simp at hx
      | cons x' f =>
        refine ih hL.tail h.2 ?_ (by simpa using hl) (by simpa using hx)
        have h1 := cross_le (S := S) hL.tail h.2
        have h2 := h.1
        have h3 := hL l' (by simp)
        rw [cross, cutVal, crossTerm, cutTerm] at he
        cases ha : S l'.a <;> cases hb : S l'.b <;> simp [ha, hb] at he <;> omega
/-- What goes out of every station but two is nothing. -/
def kept (n : Nat) (L : List Ln) (f : List Int) (p q : Int) : Prop := ∀ s : Nat, s < n → (s : Int) ≠ p → (s : Int) ≠ q → outAt L f s = 0
theorem out_cross {n : Nat} {L : List Ln} {f : List Int} {p q : Int} (hL : netIn n L) (hp0 : 0 ≤ p) (hp : p < n) (hk : kept n L f p q) {S : Int → Bool} (hSp : S p = true) (hSq : S q = false) : outAt L f p = cross S L f := by
  rw [← sumS_out S hL f]
  refine (sumS_only p hp0 hp hSp fun s hs hSs hne => hk s hs hne ?_).symm
  rintro rfl; rw [hSs] at hSq; cases hSq
theorem out_le_cut {n : Nat} {L : List Ln} {f : List Int} {p q : Int} (hL : netIn n L) (hp0 : 0 ≤ p) (hp : p < n) (hk : kept n L f p q) (hc : caps L f) {S : Int → Bool} (hSp : S p = true) (hSq : S q = false) : outAt L f p ≤ cutVal S L := by
  rw [out_cross hL hp0 hp hk hSp hSq]; exact cross_le hL hc
/-- What goes out of one of the two comes in at the other. -/
theorem sumS_all_zero {n : Nat} {L : List Ln} {f : List Int} (hL : netIn n L) : sumS (fun _ => true) (outAt L f) n = 0 := by
  rw [sumS_out _ hL]
  clear hL
  induction L generalizing f with
  | nil => cases f <;> rfl
  | cons l L ih => cases f with
    | nil => rfl
    | cons x f => rw [cross, crossTerm, ih]; simp
theorem sumS_pair {g : Int → Int} {n : Nat} (p q : Int) (hpq : p ≠ q) (hp0 : 0 ≤ p) (hp : p < (n : Int)) (hq0 : 0 ≤ q) (hq : q < (n : Int)) (hz : ∀ s : Nat, s < n → (s : Int) ≠ p → (s : Int) ≠ q → g s = 0) : sumS (fun _ => true) g n = g p + g q := by
  rw [sumS_congr (h := fun s => (if p = s then g p else 0) + (if q = s then g q else 0)), sumS_add, sumS_one _ p _ n hp0 hp, sumS_one _ q _ n hq0 hq, if_pos rfl, if_pos rfl]
  intro s hs _
  by_cases e1 : p = (s : Int)
  · have e2 : ¬ q = (s : Int) := fun h => hpq (e1.trans h.symm)
    simp only [if_pos e1, if_neg e2, Int.add_zero]; rw [e1]
  · by_cases e2 : q = (s : Int)
    · simp only [if_neg e1, if_pos e2, Int.zero_add]; rw [e2]
    · simp only [if_neg e1, if_neg e2]; exact hz s hs (fun h => e1 h.symm) (fun h => e2 h.symm)
theorem out_back {n : Nat} {L : List Ln} {f : List Int} {p q : Int} (hL : netIn n L) (hpq : p ≠ q) (hp0 : 0 ≤ p) (hp : p < (n : Int)) (hq0 : 0 ≤ q) (hq : q < (n : Int)) (hk : kept n L f p q) : outAt L f q = - outAt L f p := by
  have h1 := sumS_all_zero (f := f) hL
  rw [sumS_pair p q hpq hp0 hp hq0 hq hk] at h1; omega
theorem outAt_neg (L : List Ln) (f : List Int) (s : Int) : outAt L (f.map fun x => -x) s = - outAt L f s := by
  induction L generalizing f with
  | nil => simp [outAt_nil]
  | cons l L ih => cases f with
    | nil => simp [outAt_nil2]
    | cons x f => rw [List.map_cons, outAt, outAt, ih, outTerm, outTerm]; split <;> split <;> omega
theorem outAt_add (L : List Ln) (f g : List Int) (s : Int) (h : f.length = g.length) : outAt L (List.zipWith (· + ·) f g) s = outAt L f s + outAt L g s := by
  induction L generalizing f g with
  | nil => simp [outAt_nil]
  | cons l L ih => cases f with
    | nil => cases g with
      | nil => simp [outAt_nil2]
      | cons y g => simp at h
    | cons x f => cases g with
      | nil => simp at h
      | cons y g => rw [List.zipWith_cons_cons, outAt, outAt, outAt, ih _ _ (by simpa using h), outTerm, outTerm, outTerm]; split <;> split <;> omega
theorem outAt_bound {n : Nat} {L : List Ln} {f : List Int} (hL : netIn n L) (h : caps L f) (s : Int) : -(9 * L.length) ≤ outAt L f s ∧ outAt L f s ≤ 9 * L.length := by
  induction L generalizing f with
  | nil => rw [outAt_nil]; simp
  | cons l L ih => cases f with
    | nil => rw [outAt_nil2]; simp; omega
    | cons x f =>
      have h1 := ih hL.tail h.2
      have h2 := h.1
      have h3 := hL l (by simp)
      rw [outAt, outTerm, List.length_cons]
      split <;> split <;> omega
end Go.Proofs.Ytkcfclkpbmeaiaa
