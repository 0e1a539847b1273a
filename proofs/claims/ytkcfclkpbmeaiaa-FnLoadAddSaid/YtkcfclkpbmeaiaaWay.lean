/- Free channels, ways, the greatest load: plain numbers. -/
import Derived.Test.YtkcfclkpbmeaiaaPl
namespace Go.Proofs.Ytkcfclkpbmeaiaa
set_option linter.unusedVariables false
set_option linter.unusedSimpArgs false
/-- Does a line with load x bear one more from p to q? -/
def fr (l : Ln) (x p q : Int) : Bool := (l.a == p && (l.b == q && decide (x < l.c))) || (l.b == p && (l.a == q && decide (-l.c < x)))
def frAt (L : List Ln) (f : List Int) (p q : Int) (i : Nat) : Bool := fr (L.getD i ln0) (f.getD i 0) p q
/-- The first free line from p to q. -/
def nx (L : List Ln) (f : List Int) (p q : Int) : Option Nat := (List.range L.length).find? (frAt L f p q)
theorem nx_mk {L : List Ln} {f : List Int} {p q : Int} {k : Nat} (h1 : frAt L f p q k = true) (hk : k < L.length) (h2 : ∀ i, i < k → frAt L f p q i = false) : nx L f p q = some k := by
  unfold nx
  rw [List.find?_range_eq_some]
  exact ⟨h1, by simpa using hk, fun j hj => by rw [h2 j hj]; rfl⟩
theorem nx_no {L : List Ln} {f : List Int} {p q : Int} (h : ∀ i, i < L.length → frAt L f p q i = false) : nx L f p q = none := by
  unfold nx
  rw [List.find?_eq_none]
  intro x hx
  rw [h x (by simpa using hx)]; simp
theorem nx_spec {L : List Ln} {f : List Int} {p q : Int} {k : Nat} (h : nx L f p q = some k) : k < L.length ∧ frAt L f p q k = true ∧ ∀ i, i < k → frAt L f p q i = false := by
  unfold nx at h
  rw [List.find?_range_eq_some] at h
  exact ⟨by simpa using h.2.1, h.1, fun i hi => by simpa using h.2.2 i hi⟩
theorem nx_none {L : List Ln} {f : List Int} {p q : Int} (h : nx L f p q = none) (i : Nat) (hi : i < L.length) : frAt L f p q i = false := by
  unfold nx at h
  rw [List.find?_eq_none] at h
  simpa using h i (by simpa using hi)
theorem nx_congr {L : List Ln} {f g : List Int} {p q : Int} (h : ∀ i, i < L.length → frAt L f p q i = frAt L g p q i) : nx L f p q = nx L g p q := by
  cases hg : nx L g p q with
  | none => exact nx_no fun i hi => by rw [h i hi]; exact nx_none hg i hi
  | some k =>
    obtain ⟨h1, h2, h3⟩ := nx_spec hg
    exact nx_mk (by rw [h k h1]; exact h2) h1 fun i hi => by rw [h i (by omega)]; exact h3 i hi

/-- One station asked in a round of the search. -/
def seeA (L : List Ln) (f : List Int) (y : Nat) (st : List Int × List Nat) (a : Nat) : List Int × List Nat :=
  if st.1.getD a 0 < 0 ∧ (nx L f a y).isSome = true then (st.1.set a (st.1.getD y 0 + 1), st.2 ++ [a]) else st
def seeN (L : List Ln) (f : List Int) (y : Nat) (st : List Int × List Nat) : Nat → List Int × List Nat
  | 0 => st
  | m + 1 => seeA L f y (seeN L f y st m) m
def bfs (L : List Ln) (f : List Int) (n : Nat) : Nat → Nat → List Int × List Nat → List Int × List Nat
  | 0, _, st => st
  | m + 1, k, st => match st.2[k]? with
    | none => st
    | some y => bfs L f n m (k + 1) (seeN L f y st n)
def start (n to : Nat) : List Int × List Nat := ((List.replicate n (-1)).set to 0, [to])
/-- How far each station is, -1 where no way leads. -/
def far (L : List Ln) (f : List Int) (n to : Nat) : List Int := (bfs L f n n 0 (start n to)).1

structure Inv (L : List Ln) (f : List Int) (n to : Nat) (b : Int) (st : List Int × List Nat) : Prop where
  len : st.1.length = n
  lt : ∀ x, x ∈ st.2 → x < n
  nd : st.2.Nodup
  mem : ∀ x, x < n → (0 ≤ st.1.getD x 0 ↔ x ∈ st.2)
  top : st.1.getD to 0 = 0
  tin : to ∈ st.2
  tree : ∀ x, x ∈ st.2 → x ≠ to → ∃ y, y ∈ st.2 ∧ (nx L f x y).isSome = true ∧ st.1.getD x 0 = st.1.getD y 0 + 1
  bound : ∀ x, st.1.getD x 0 ≤ b
  low : ∀ x, -1 ≤ st.1.getD x 0
theorem nodup_lt_length : ∀ (n : Nat) (l : List Nat), l.Nodup → (∀ x, x ∈ l → x < n) → l.length ≤ n := by
  intro n
  induction n with
  | zero => intro l _ h; cases l with
    | nil => exact Nat.le_refl _
    | cons x l => exact absurd (h x (by simp)) (by omega)
  | succ n ih =>
    intro l hn h
    have h1 := ih (l.erase n) (hn.erase n) fun x hx => by
      have h2 := h x (List.mem_of_mem_erase hx)
      have h3 : x ≠ n := by rintro rfl; exact hn.not_mem_erase hx
      omega
    have h4 : l.length ≤ (l.erase n).length + 1 := by
      by_cases hm : n ∈ l
      · rw [List.length_erase_of_mem hm]; omega
      · rw [List.erase_of_not_mem hm]; omega
    omega
section
variable {L : List Ln} {f : List Int} {n to : Nat} {b : Int} {st : List Int × List Nat}
theorem Inv.le (h : Inv L f n to b st) : st.2.length ≤ n := nodup_lt_length n st.2 h.nd h.lt
theorem Inv.more (h : Inv L f n to b st) {b' : Int} (hb : b ≤ b') : Inv L f n to b' st := { h with bound := fun x => by have := h.bound x; omega }
theorem getD_set_int {l : List Int} {i j : Nat} (v : Int) (h : i < l.length) : (l.set i v).getD j 0 = if i = j then v else l.getD j 0 := by
  rw [List.getD_eq_getElem?_getD, List.getElem?_set]
  by_cases e : i = j
  · subst e; simp [h]
  · simp [e, List.getD_eq_getElem?_getD]
theorem start_inv (hto : to < n) : Inv L f n to 0 (start n to) where
  len := by simp [start]
  lt := by intro x hx; simp [start] at hx; omega
  nd := by simp [start]
  mem := by
    intro x hx
    rw [start, getD_set_int _ (by simpa using hto)]
    simp only [List.mem_singleton]
    by_cases e : to = x
    · rw [if_pos e]; exact ⟨fun _ => e.symm, fun _ => Int.le_refl _⟩
    · rw [if_neg e, List.getD_eq_getElem?_getD, List.getElem?_replicate, if_pos hx]
      exact ⟨fun h => absurd h (by decide), fun h => absurd h.symm e⟩
  top := by rw [start, getD_set_int _ (by simpa using hto), if_pos rfl]
  tin := by simp [start]
  tree := by intro x hx; simp [start] at hx; exact fun h => absurd hx h
  bound := by
    intro x
    rw [start, getD_set_int _ (by simpa using hto)]
    split
    · exact Int.le_refl _
    · rw [List.getD_eq_getElem?_getD, List.getElem?_replicate]; split <;> decide
  low := by
    intro x
    rw [start, getD_set_int _ (by simpa using hto)]
    split
    · decide
    · rw [List.getD_eq_getElem?_getD, List.getElem?_replicate]; split <;> decide
/-- What a step of the search leaves. -/
structure More (L : List Ln) (f : List Int) (n to : Nat) (b : Int) (st st' : List Int × List Nat) : Prop where
  inv : Inv L f n to b st'
  old : ∀ x, x ∈ st.2 → st'.1.getD x 0 = st.1.getD x 0
  pre : ∃ r, st'.2 = st.2 ++ r
theorem More.sub {st st' : List Int × List Nat} (h : More L f n to b st st') {x : Nat} (hx : x ∈ st.2) : x ∈ st'.2 := by
  obtain ⟨r, hr⟩ := h.pre; rw [hr]; exact List.mem_append_left _ hx
theorem More.refl (h : Inv L f n to b st) : More L f n to b st st := ⟨h, fun _ _ => rfl, [], by simp⟩
theorem More.trans {s1 s2 s3 : List Int × List Nat} {b' : Int} (h : More L f n to b' s1 s2) (k : More L f n to b s2 s3) : More L f n to b s1 s3 :=
  ⟨k.inv, fun x hx => (k.old x (h.sub hx)).trans (h.old x hx), by
    obtain ⟨r, hr⟩ := h.pre
    obtain ⟨r', hr'⟩ := k.pre
    exact ⟨r ++ r', by rw [hr', hr, List.append_assoc]⟩⟩
theorem seeA_more (h : Inv L f n to b st) {y a : Nat} (hy : y ∈ st.2) (hyb : st.1.getD y 0 + 1 ≤ b) (ha : a < n) :
    More L f n to b st (seeA L f y st a) ∧ ((nx L f a y).isSome = true → a ∈ (seeA L f y st a).2) := by
  unfold seeA
  by_cases hc : st.1.getD a 0 < 0 ∧ (nx L f a y).isSome = true
  · rw [if_pos hc]
    have hal : a < st.1.length := by rw [h.len]; exact ha
    have hna : a ∉ st.2 := fun hm => by have := (h.mem a ha).2 hm; omega
    have hy0 : 0 ≤ st.1.getD y 0 := (h.mem y (h.lt y hy)).2 hy
    have hya : a ≠ y := by rintro rfl; exact hna hy
    have hat : a ≠ to := by rintro rfl; exact hna h.tin
    refine ⟨⟨⟨by simp [h.len], ?_, ?_, ?_, ?_, List.mem_append_left _ h.tin, ?_, ?_, ?_⟩, ?_, [a], rfl⟩, fun _ => by simp⟩
    · intro x hx
      rw [List.mem_append] at hx
      rcases hx with hx | hx
      · exact h.lt x hx
      · rw [List.mem_singleton] at hx; omega
    · rw [List.nodup_append]
      refine ⟨h.nd, by simp, ?_⟩
      intro x hx z hz
      rw [List.mem_singleton] at hz
      rintro rfl; exact hna (hz ▸ hx)
    · intro x hx
      show 0 ≤ (st.1.set a _).getD x 0 ↔ x ∈ st.2 ++ [a]
      rw [getD_set_int _ hal, List.mem_append, List.mem_singleton]
      by_cases e : a = x
      · rw [if_pos e]; exact ⟨fun _ => .inr e.symm, fun _ => by omega⟩
      · rw [if_neg e, h.mem x hx]; exact ⟨fun h => .inl h, fun h => h.elim id fun h => absurd h.symm e⟩
    · show (st.1.set a _).getD to 0 = 0
      rw [getD_set_int _ hal, if_neg hat]; exact h.top
    · intro x hx hxt
      show ∃ y', y' ∈ st.2 ++ [a] ∧ _ ∧ (st.1.set a _).getD x 0 = (st.1.set a _).getD y' 0 + 1
      rw [getD_set_int _ hal]
      rw [List.mem_append, List.mem_singleton] at hx
      rcases hx with hx | rfl
      · obtain ⟨z, hz, hz1, hz2⟩ := h.tree x hx hxt
        have e1 : ¬ a = x := by rintro rfl; exact hna hx
        have e2 : ¬ a = z := by rintro rfl; exact hna hz
        exact ⟨z, List.mem_append_left _ hz, hz1, by rw [getD_set_int _ hal, if_neg e1, if_neg e2]; exact hz2⟩
      · exact ⟨y, List.mem_append_left _ hy, hc.2, by rw [getD_set_int _ hal, if_pos rfl, if_neg hya]⟩
    · intro x
      show (st.1.set a _).getD x 0 ≤ b
      rw [getD_set_int _ hal]; split
      · exact hyb
      · exact h.bound x
    · intro x
      show -1 ≤ (st.1.set a _).getD x 0
      rw [getD_set_int _ hal]; split
      · omega
      · exact h.low x
    · intro x hx
      show (st.1.set a _).getD x 0 = _
      rw [getD_set_int _ hal, if_neg (by rintro rfl; exact hna hx)]
  · rw [if_neg hc]
    refine ⟨.refl h, fun hs => ?_⟩
    rw [← h.mem a ha]
    rcases Int.lt_or_le (st.1.getD a 0) 0 with h1 | h1
    · exact absurd ⟨h1, hs⟩ hc
    · exact h1
theorem seeN_more (h : Inv L f n to b st) {y : Nat} (hy : y ∈ st.2) (hyb : st.1.getD y 0 + 1 ≤ b) (m : Nat) (hm : m ≤ n) :
    More L f n to b st (seeN L f y st m) ∧ ∀ a, a < m → (nx L f a y).isSome = true → a ∈ (seeN L f y st m).2 := by
  induction m with
  | zero => exact ⟨.refl h, fun a ha => absurd ha (by omega)⟩
  | succ m ih =>
    obtain ⟨h1, h2⟩ := ih (by omega)
    obtain ⟨h3, h4⟩ := seeA_more (a := m) h1.inv (h1.sub hy) (by rw [h1.old y hy]; exact hyb) (by omega)
    refine ⟨h1.trans h3, fun a ha hs => ?_⟩
    rcases (by omega : a < m ∨ a = m) with h | rfl
    · exact h3.sub (h2 a h hs)
    · exact h4 hs
/-- The stations ahead of place k have been asked. -/
def Asked (L : List Ln) (f : List Int) (n k : Nat) (st : List Int × List Nat) : Prop := ∀ i, i < k → ∀ y, st.2[i]? = some y → ∀ x, x < n → (nx L f x y).isSome = true → x ∈ st.2
theorem asked_next {k y : Nat} (h : Inv L f n to (k : Int) st) (ha : Asked L f n k st) (hy : st.2[k]? = some y) :
    Inv L f n to ((k + 1 : Nat) : Int) (seeN L f y st n) ∧ Asked L f n (k + 1) (seeN L f y st n) ∧ k + 1 ≤ (seeN L f y st n).2.length := by
  have hy' := List.mem_of_getElem? hy
  have hb := h.bound y
  obtain ⟨h1, h2⟩ := seeN_more (h.more (b' := ((k + 1 : Nat) : Int)) (by omega)) hy' (by omega) n (Nat.le_refl _)
  obtain ⟨r, hr⟩ := h1.pre
  have hk : k < st.2.length := (List.getElem?_eq_some_iff.1 hy).1
  refine ⟨h1.inv, fun i hi z hz x hx hs => ?_, by rw [hr, List.length_append]; omega⟩
  rcases (by omega : i < k ∨ i = k) with hlt | rfl
  · have : st.2[i]? = some z := by rw [← hz, hr, List.getElem?_append_left (by omega)]
    exact h1.sub (ha i hlt z this x hx hs)
  · have : z = y := by rw [hr, List.getElem?_append_left hk, hy] at hz; injection hz with hz; exact hz.symm
    subst this
    exact h2 x hx hs
/-- The search's end. -/
structure Far (L : List Ln) (f : List Int) (n to : Nat) (st : List Int × List Nat) : Prop where
  inv : Inv L f n to n st
  all : ∀ y, y ∈ st.2 → ∀ x, x < n → (nx L f x y).isSome = true → x ∈ st.2
theorem bfs_far (m k : Nat) (st : List Int × List Nat) (hmk : m + k = n) (h : Inv L f n to (k : Int) st) (ha : Asked L f n k st) (hk : k ≤ st.2.length) : Far L f n to (bfs L f n m k st) := by
  induction m generalizing k st with
  | zero =>
    rw [bfs]
    refine ⟨h.more (by omega), fun y hy x hx hs => ?_⟩
    obtain ⟨i, hi, he⟩ := List.getElem_of_mem hy
    have := h.le
    exact ha i (by omega) y (by rw [List.getElem?_eq_getElem hi, he]) x hx hs
  | succ m ih =>
    rw [bfs]
    cases hy : st.2[k]? with
    | none =>
      show Far L f n to st
      refine ⟨h.more (by omega), fun y hy' x hx hs => ?_⟩
      obtain ⟨i, hi, he⟩ := List.getElem_of_mem hy'
      have hlen : st.2.length ≤ k := by
        rcases Nat.lt_or_ge k st.2.length with h1 | h1
        · rw [List.getElem?_eq_getElem h1] at hy; cases hy
        · exact h1
      exact ha i (by omega) y (by rw [List.getElem?_eq_getElem hi, he]) x hx hs
    | some y =>
      obtain ⟨h1, h2, h3⟩ := asked_next h ha hy
      show Far L f n to (bfs L f n m (k + 1) (seeN L f y st n))
      exact ih (k + 1) _ (by omega) h1 h2 h3
theorem far_ok (hto : to < n) : ∃ l, Far L f n to (far L f n to, l) :=
  ⟨(bfs L f n n 0 (start n to)).2, bfs_far n 0 _ (by omega) (start_inv hto) (fun i hi => absurd hi (by omega)) (by simp [start])⟩
end
/-- Which way a line is gone from p. -/
def sg (l : Ln) (p : Int) : Int := if l.a = p then 1 else -1
def stepTo (L : List Ln) (f fa : List Int) (n p : Nat) : Option Nat := (List.range n).find? fun y => decide (fa.getD y 0 = fa.getD p 0 - 1) && (nx L f p y).isSome
theorem stepTo_mk {L : List Ln} {f fa : List Int} {n p y : Nat} (hy : y < n) (h1 : fa.getD y 0 = fa.getD p 0 - 1) (h2 : (nx L f p y).isSome = true)
    (h3 : ∀ z : Nat, z < y → fa.getD z 0 ≠ fa.getD p 0 - 1 ∨ (nx L f p z).isSome = false) : stepTo L f fa n p = some y := by
  unfold stepTo
  rw [List.find?_range_eq_some]
  refine ⟨by simp only [h2, Bool.and_true]; exact decide_eq_true h1, by simpa using hy, fun z hz => ?_⟩
  rcases h3 z hz with h | h
  · rw [decide_eq_false h]; rfl
  · rw [h, Bool.and_false]; rfl
theorem stepTo_spec {L : List Ln} {f fa : List Int} {n p y : Nat} (h : stepTo L f fa n p = some y) : y < n ∧ fa.getD y 0 = fa.getD p 0 - 1 ∧ (nx L f p y).isSome = true ∧ ∀ z : Nat, z < y → fa.getD z 0 ≠ fa.getD p 0 - 1 ∨ (nx L f p z).isSome = false := by
  unfold stepTo at h
  rw [List.find?_range_eq_some] at h
  obtain ⟨h1, h2, h3⟩ := h
  rw [Bool.and_eq_true] at h1
  refine ⟨by simpa using h2, of_decide_eq_true h1.1, h1.2, fun z hz => ?_⟩
  have := h3 z hz
  by_cases e : fa.getD z 0 = fa.getD p 0 - 1
  · right; rw [decide_eq_true e] at this; simpa using this
  · exact .inl e
/-- A way gone to its end, one channel of each line taken. -/
def way (L : List Ln) (fa : List Int) (n : Nat) : Nat → Nat → List Int → List Int
  | 0, _, f => f
  | m + 1, p, f => match stepTo L f fa n p with
    | none => f
    | some y => match nx L f p y with
      | none => f
      | some k => way L fa n m y (f.set k (f.getD k 0 + sg (L.getD k ln0) p))
def run (L : List Ln) (n p q : Nat) : Nat → List Int → Nat → List Int × Nat
  | 0, f, t => (f, t)
  | m + 1, f, t => if (far L f n q).getD p 0 < 0 then (f, t) else run L n p q m (way L (far L f n q) n ((far L f n q).getD p 0).toNat p f) (t + 1)
/-- The greatest load, and its traffic. -/
def mostRun (L : List Ln) (n p q : Nat) : List Int × Nat := run L n p q 100 (List.replicate L.length 0) 0

structure WayInv (L : List Ln) (f0 fa : List Int) (n from_ to : Nat) (m p : Nat) (f : List Int) : Prop where
  plt : p < n
  dist : fa.getD p 0 = m
  len : f.length = L.length
  caps : caps L f
  out : ∀ s : Int, outAt L f s = outAt L f0 s + ((if (from_ : Int) = s then 1 else 0) - (if (p : Int) = s then 1 else 0))
  same : ∀ k l, L[k]? = some l → fa.getD l.a.toNat 0 < m ∨ fa.getD l.b.toNat 0 < m → f.getD k 0 = f0.getD k 0
theorem getD_ln {L : List Ln} {k : Nat} (h : k < L.length) : ∃ l, L[k]? = some l ∧ L.getD k ln0 = l :=
  ⟨L[k], List.getElem?_eq_getElem h, by rw [List.getD_eq_getElem?_getD, List.getElem?_eq_getElem h]; rfl⟩
theorem getD_int {f : List Int} {k : Nat} (h : k < f.length) : f[k]? = some (f.getD k 0) := by
  rw [List.getD_eq_getElem?_getD, List.getElem?_eq_getElem h]; rfl
theorem fr_true {l : Ln} {x p q : Int} (h : fr l x p q = true) : (l.a = p ∧ l.b = q ∧ x < l.c) ∨ (l.b = p ∧ l.a = q ∧ -l.c < x) := by
  unfold fr at h; simpa using h
theorem step_add (A B C : Prop) [Decidable A] [Decidable B] [Decidable C] (z x : Int) : z + ((if A then 1 else 0) - (if B then 1 else 0)) + ((if B then x + 1 else 0) - (if C then x + 1 else 0) - ((if B then x else 0) - (if C then x else 0))) = z + ((if A then 1 else 0) - if C then 1 else 0) := by
  by_cases A <;> by_cases B <;> by_cases C <;> simp [*] <;> omega
theorem step_sub (A B C : Prop) [Decidable A] [Decidable B] [Decidable C] (z x : Int) : z + ((if A then 1 else 0) - (if B then 1 else 0)) + ((if C then x + -1 else 0) - (if B then x + -1 else 0) - ((if C then x else 0) - (if B then x else 0))) = z + ((if A then 1 else 0) - if C then 1 else 0) := by
  by_cases A <;> by_cases B <;> by_cases C <;> simp [*] <;> omega
theorem way_next {L : List Ln} {f0 fa f : List Int} {n from_ to m p : Nat} {lst : List Nat} (hL : netIn n L) (hF : Far L f0 n to (fa, lst)) (h : WayInv L f0 fa n from_ to (m + 1) p f) :
    ∃ y k l, stepTo L f fa n p = some y ∧ nx L f p y = some k ∧ L[k]? = some l ∧ k < L.length ∧ p ≠ to ∧ -l.c ≤ f.getD k 0 + sg l p ∧ f.getD k 0 + sg l p ≤ l.c ∧ WayInv L f0 fa n from_ to m y (f.set k (f.getD k 0 + sg (L.getD k ln0) p)) := by
  have hd := h.dist
  have hpt : p ≠ to := by rintro rfl; have := hF.inv.top; simp only at this; rw [hd] at this; omega
  have hpm : p ∈ lst := (hF.inv.mem p h.plt).1 (by show 0 ≤ fa.getD p 0; rw [hd]; omega)
  obtain ⟨y0, hy0, hs0, he0⟩ := hF.inv.tree p hpm hpt
  have hy0n := hF.inv.lt y0 hy0
  simp only at he0
  have same : ∀ y : Nat, fa.getD y 0 = m → nx L f p y = nx L f0 p y := fun y hy => nx_congr fun i hi => by
    obtain ⟨l, hl, hl'⟩ := getD_ln hi
    unfold frAt
    rw [hl']
    by_cases ej : (l.a = p ∧ l.b = y) ∨ (l.b = p ∧ l.a = y)
    · rw [h.same i l hl (by
        rcases ej with ⟨_, e⟩ | ⟨_, e⟩
        · right; rw [e, Int.toNat_natCast, hy]; omega
        · left; rw [e, Int.toNat_natCast, hy]; omega)]
    · have : ∀ x, fr l x p y = false := fun x => by
        unfold fr
        rw [Bool.or_eq_false_iff]
        constructor
        · by_cases e : l.a = p
          · have : ¬ l.b = y := fun e' => ej (.inl ⟨e, e'⟩)
            simp [this]
          · simp [e]
        · by_cases e : l.b = p
          · have : ¬ l.a = y := fun e' => ej (.inr ⟨e, e'⟩)
            simp [this]
          · simp [e]
      rw [this, this]
  have hex : ∃ y, stepTo L f fa n p = some y := by
    cases hst : stepTo L f fa n p with
    | some y => exact ⟨y, rfl⟩
    | none =>
      exfalso
      unfold stepTo at hst
      rw [List.find?_eq_none] at hst
      refine hst y0 (by simpa using hy0n) ?_
      have e1 : fa.getD y0 0 = m := by rw [hd] at he0; omega
      rw [same y0 e1, hs0, Bool.and_true]
      exact decide_eq_true (by rw [e1, hd]; omega)
  obtain ⟨y, hy⟩ := hex
  obtain ⟨hyn, hyd, hys, _⟩ := stepTo_spec hy
  have hym : fa.getD y 0 = m := by rw [hyd, hd]; omega
  obtain ⟨k, hk⟩ := Option.isSome_iff_exists.1 hys
  obtain ⟨hkL, hkf, _⟩ := nx_spec hk
  obtain ⟨l, hl, hl'⟩ := getD_ln hkL
  have hx : f[k]? = some (f.getD k 0) := getD_int (by rw [h.len]; exact hkL)
  have hcap := caps_get h.caps hl hx
  have hin := hL l (List.mem_of_getElem? hl)
  unfold frAt at hkf
  rw [hl'] at hkf
  have hfr := fr_true hkf
  have hbd : -l.c ≤ f.getD k 0 + sg l p ∧ f.getD k 0 + sg l p ≤ l.c := by
    unfold sg
    rcases hfr with ⟨e1, e2, e3⟩ | ⟨e1, e2, e3⟩
    · rw [if_pos e1]; omega
    · rw [if_neg (by rw [e1] at hin; omega)]; omega
  refine ⟨y, k, l, hy, hk, hl, hkL, hpt, hbd.1, hbd.2, ⟨hyn, hym, by simp [h.len], caps_set h.caps hl (by rw [hl']; exact hbd), fun s => ?_, fun j l' hl2 hj => ?_⟩⟩
  · rw [outAt_set _ s hl hx, h.out s, hl']
    unfold outTerm sg
    rcases hfr with ⟨e1, e2, _⟩ | ⟨e1, e2, _⟩
    · rw [if_pos e1, e1, e2]; exact step_add _ _ _ _ _
    · have hne : ¬ l.a = (p : Int) := by rw [← e1]; exact hin.2.2.2.2.1
      rw [if_neg hne, e1, e2]; exact step_sub _ _ _ _ _
  · have hne : k ≠ j := by
      rintro rfl
      rw [hl] at hl2; injection hl2 with hl2; subst hl2
      rcases hfr with ⟨e1, e2, _⟩ | ⟨e1, e2, _⟩
      · rw [e1, e2, Int.toNat_natCast, Int.toNat_natCast, hd, hym] at hj; omega
      · rw [e1, e2, Int.toNat_natCast, Int.toNat_natCast, hd, hym] at hj; omega
    rw [List.getD_eq_getElem?_getD, List.getElem?_set_ne hne, ← List.getD_eq_getElem?_getD]
    exact h.same j l' hl2 (by omega)
theorem way_end {L : List Ln} {f0 fa f : List Int} {n from_ to m p : Nat} {lst : List Nat} (hL : netIn n L) (hF : Far L f0 n to (fa, lst)) (h : WayInv L f0 fa n from_ to m p f) :
    WayInv L f0 fa n from_ to 0 to (way L fa n m p f) := by
  induction m generalizing p f with
  | zero =>
    rw [way]
    have : p = to := by
      by_cases e : p = to
      · exact e
      · exfalso
        have hpm : p ∈ lst := (hF.inv.mem p h.plt).1 (by show 0 ≤ fa.getD p 0; rw [h.dist]; omega)
        obtain ⟨y0, hy0, _, he0⟩ := hF.inv.tree p hpm e
        have := (hF.inv.mem y0 (hF.inv.lt y0 hy0)).2 hy0
        have hd := h.dist
        simp only at he0 this
        omega
    subst this; exact h
  | succ m ih =>
    obtain ⟨y, k, l, h1, h2, h3, h4, h5, h6, h7, h8⟩ := way_next hL hF h
    simp only [way, h1, h2]
    exact ih h8
/-- A load while the greatest one is sought: its traffic so far is t. -/
structure RunInv (L : List Ln) (n p q : Nat) (f : List Int) (t : Nat) : Prop where
  len : f.length = L.length
  caps : caps L f
  keep : kept n L f p q
  out : outAt L f p = t
theorem RunInv.zero {L : List Ln} {n : Nat} (hL : netIn n L) (p q : Nat) : RunInv L n p q (List.replicate L.length 0) 0 :=
  ⟨by simp, caps_zero hL _, fun s _ _ _ => outAt_zero _ _ _, outAt_zero _ _ _⟩
theorem RunInv.start {L : List Ln} {n p q : Nat} {f : List Int} {t : Nat} (h : RunInv L n p q f t) (hp : p < n) {fa : List Int} {d : Nat} (hd : fa.getD p 0 = d) : WayInv L f fa n p q d p f :=
  ⟨hp, hd, h.len, h.caps, fun s => by omega, fun _ _ _ _ => rfl⟩
theorem RunInv.next {L : List Ln} {n p q : Nat} {f f' fa : List Int} {t : Nat} (h : RunInv L n p q f t) (hpq : p ≠ q) (hw : WayInv L f fa n p q 0 q f') : RunInv L n p q f' (t + 1) where
  len := hw.len
  caps := hw.caps
  keep := fun s hs h1 h2 => by
    rw [hw.out s, h.keep s hs h1 h2, if_neg (fun e => h1 e.symm), if_neg (fun e => h2 e.symm)]; rfl
  out := by
    rw [hw.out p, h.out, if_pos rfl, if_neg (fun e => hpq (by omega))]; omega
theorem RunInv.le {L : List Ln} {n p q : Nat} {f : List Int} {t : Nat} (h : RunInv L n p q f t) (hL : netIn n L) (hp : p < n) (hpq : p ≠ q) : t ≤ 9 * L.length := by
  have h1 := out_le_cut (S := fun s => s == (p : Int)) hL (by omega) (by omega) h.keep h.caps (by simp) (by simp; omega)
  have h2 := cutVal_bound hL fun s => s == (p : Int)
  rw [h.out] at h1; omega
theorem run_next {L : List Ln} {n p q : Nat} {f : List Int} {t : Nat} (h : RunInv L n p q f t) (hL : netIn n L) (hp : p < n) (hq : q < n) (hpq : p ≠ q) (hf : ¬ (far L f n q).getD p 0 < 0) :
    RunInv L n p q (way L (far L f n q) n ((far L f n q).getD p 0).toNat p f) (t + 1) := by
  obtain ⟨l, hl⟩ := far_ok (L := L) (f := f) hq
  exact h.next hpq (way_end hL hl (h.start hp (by omega)))
/-- A greatest load, and a cut that it fills. -/
structure Most (L : List Ln) (n p q : Nat) (f : List Int) (t : Nat) : Prop where
  run : RunInv L n p q f t
  cut : ∃ S : Int → Bool, S p = true ∧ S q = false ∧ cutVal S L = t
theorem run_end {L : List Ln} {n p q : Nat} {f : List Int} {t : Nat} (h : RunInv L n p q f t) (hL : netIn n L) (hp : p < n) (hq : q < n) (hpq : p ≠ q) (hf : (far L f n q).getD p 0 < 0) : Most L n p q f t := by
  obtain ⟨lst, hF⟩ := far_ok (L := L) (f := f) hq
  generalize far L f n q = fa at hf hF
  have hSp : (fun s : Int => decide (fa.getD s.toNat 0 < 0)) (p : Int) = true := decide_eq_true (by rw [Int.toNat_natCast]; exact hf)
  have hSq : (fun s : Int => decide (fa.getD s.toNat 0 < 0)) (q : Int) = false := decide_eq_false (by
    rw [Int.toNat_natCast]
    have := hF.inv.top
    simp only at this
    rw [this]; omega)
  refine ⟨h, fun s => decide (fa.getD s.toNat 0 < 0), hSp, hSq, ?_⟩
  rw [← h.out, out_cross (S := fun s => decide (fa.getD s.toNat 0 < 0)) hL (by omega) (by omega) h.keep hSp hSq]
  refine (cross_full h.len fun k l x hl hx => ?_).symm
  have hin := hL l (List.mem_of_getElem? hl)
  have hkL : k < L.length := (List.getElem?_eq_some_iff.1 hl).1
  have hc := caps_get h.caps hl hx
  have hgl : L.getD k ln0 = l := by rw [List.getD_eq_getElem?_getD, hl]; rfl
  have hgx : f.getD k 0 = x := by rw [List.getD_eq_getElem?_getD, hx]; rfl
  have nofree : ∀ u v : Int, 0 ≤ u → u < n → 0 ≤ v → v < n → fa.getD u.toNat 0 < 0 → ¬ fa.getD v.toNat 0 < 0 → fr l x u v = false := fun u v hu0 hu hv0 hv hfu hfv => by
    have hvm : v.toNat ∈ lst := (hF.inv.mem v.toNat (by omega)).1 (by show 0 ≤ fa.getD v.toNat 0; omega)
    have hum : ¬ u.toNat ∈ lst := fun hm => by have := (hF.inv.mem u.toNat (by omega)).2 hm; simp only at this; omega
    cases hn : nx L f (u.toNat : Int) (v.toNat : Int) with
    | some j => exact absurd (hF.all v.toNat hvm u.toNat (by omega) (by rw [hn]; rfl)) hum
    | none =>
      have := nx_none hn k hkL
      unfold frAt at this
      rw [hgl, hgx, Int.toNat_of_nonneg hu0, Int.toNat_of_nonneg hv0] at this
      exact this
  constructor
  · intro ha hb
    have := nofree l.a l.b hin.1 hin.2.1 hin.2.2.1 hin.2.2.2.1 (of_decide_eq_true ha) (of_decide_eq_false hb)
    unfold fr at this
    simp at this
    omega
  · intro ha hb
    have := nofree l.b l.a hin.2.2.1 hin.2.2.2.1 hin.1 hin.2.1 (of_decide_eq_true hb) (of_decide_eq_false ha)
    unfold fr at this
    simp at this
    omega
theorem run_most {L : List Ln} {n p q : Nat} (hL : netIn n L) (hlen : L.length ≤ 10) (hp : p < n) (hq : q < n) (hpq : p ≠ q) (m : Nat) (f : List Int) (t : Nat) (hm : 100 ≤ m + t) (h : RunInv L n p q f t) :
    Most L n p q (run L n p q m f t).1 (run L n p q m f t).2 := by
  induction m generalizing f t with
  | zero => have := h.le hL hp hpq; omega
  | succ m ih =>
    rw [run]
    by_cases hf : (far L f n q).getD p 0 < 0
    · rw [if_pos hf]; exact run_end h hL hp hq hpq hf
    · rw [if_neg hf]; exact ih _ _ (by omega) (run_next h hL hp hq hpq hf)
theorem most_ok {L : List Ln} {n p q : Nat} (hL : netIn n L) (hlen : L.length ≤ 10) (hp : p < n) (hq : q < n) (hpq : p ≠ q) : Most L n p q (mostRun L n p q).1 (mostRun L n p q).2 :=
  run_most hL hlen hp hq hpq 100 _ 0 (by omega) (.zero hL p q)
theorem Most.le_cut {L : List Ln} {n p q : Nat} {f : List Int} {t : Nat} (h : Most L n p q f t) (hL : netIn n L) (hp : p < n) {S : Int → Bool} (hSp : S p = true) (hSq : S q = false) : (t : Int) ≤ cutVal S L := by
  rw [← h.run.out]; exact out_le_cut hL (by omega) (by omega) h.run.keep h.run.caps hSp hSq
theorem Most.ge_load {L : List Ln} {n p q : Nat} {f : List Int} {t : Nat} (h : Most L n p q f t) (hL : netIn n L) (hp : p < n) {g : List Int} (hk : kept n L g p q) (hc : caps L g) : outAt L g p ≤ (t : Int) := by
  obtain ⟨S, h1, h2, h3⟩ := h.cut
  rw [← h3]; exact out_le_cut hL (by omega) (by omega) hk hc h1 h2
end Go.Proofs.Ytkcfclkpbmeaiaa
