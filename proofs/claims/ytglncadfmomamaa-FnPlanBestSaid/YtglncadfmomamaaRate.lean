/- The order by rates and the least weighted sum of ends (Smith): plain. -/
import Derived.Sort.Defs
namespace Go.Proofs.Ytglncadfmomamaa
set_option linter.unusedVariables false
set_option linter.unusedSimpArgs false
open Go.Sort
section
variable (d w : Int → Int)
/-- x has a greater rate than y. -/
def rlt (x y : Int) : Bool := decide (w y * d x < w x * d y)
/-- x comes ahead of y. -/
def ahd (x y : Int) : Bool := rlt d w x y || (!rlt d w y x && decide (x < y))
def rateTo : Nat → List Int
  | 0 => []
  | i + 1 => (rateTo i).takeWhile (ahd d w · i) ++ (i : Int) :: (rateTo i).dropWhile (ahd d w · i)
/-- Plans by their sums. -/
def pl : Int → List Int → Int
  | _, [] => 0
  | t, x :: P => w x * (t + d x) + pl (t + d x) P
def sw (f : Int → Int) : List Int → Int
  | [] => 0
  | x :: P => f x + sw f P
end
theorem sw_append (f : Int → Int) : ∀ A B : List Int, sw f (A ++ B) = sw f A + sw f B
  | [], B => by simp [sw]
  | a :: A, B => by rw [List.cons_append, sw, sw, sw_append f A B]; omega
theorem sw_perm {f : Int → Int} {A B : List Int} (h : A.Perm B) : sw f A = sw f B := by
  induction h with
  | nil => rfl
  | cons x _ ih => rw [sw, sw, ih]
  | swap x y l => rw [sw, sw, sw, sw]; omega
  | trans _ _ h1 h2 => exact h1.trans h2
theorem pl_insert (d w : Int → Int) (x : Int) : ∀ (A B : List Int) (t : Int), pl d w t (A ++ x :: B) = pl d w t (A ++ B) + w x * (t + sw d A + d x) + d x * sw w B
  | [], B, t => by
    have h : ∀ (B : List Int) (t e : Int), pl d w (t + e) B = pl d w t B + e * sw w B := by
      intro B
      induction B with
      | nil => intro t e; simp [pl, sw]
      | cons b B ih =>
        intro t e
        rw [pl, pl, sw, show t + e + d b = t + d b + e by omega, ih (t + d b) e]
        have h1 : w b * (t + d b + e) = w b * (t + d b) + e * w b := by rw [Int.mul_add, Int.mul_comm (w b) e]
        rw [h1, Int.mul_add e]; omega
    rw [List.nil_append, List.nil_append, pl, h B t (d x), sw, Int.add_zero]; omega
  | a :: A, B, t => by
    rw [List.cons_append, List.cons_append, pl, pl, pl_insert d w x A B (t + d a), sw, show t + (d a + sw d A) + d x = t + d a + sw d A + d x by omega]; omega
theorem sw_le (f g : Int → Int) : ∀ (A : List Int), (∀ a, a ∈ A → f a ≤ g a) → sw f A ≤ sw g A
  | [], _ => by simp [sw]
  | a :: A, h => by
    rw [sw, sw]
    have := sw_le f g A (fun b hb => h b (by simp [hb]))
    have := h a (by simp)
    omega
theorem sw_mul (f : Int → Int) (c : Int) : ∀ (A : List Int), sw (fun a => c * f a) A = c * sw f A
  | [] => by simp [sw]
  | a :: A => by rw [sw, sw, sw_mul f c A, Int.mul_add]
/-- Smith's rule. -/
theorem smith (d w : Int → Int) : ∀ (Q P : List Int) (t : Int), Q.Pairwise (fun i j => w j * d i ≤ w i * d j) → P.Perm Q → pl d w t Q ≤ pl d w t P
  | [], P, t, _, hp => by rw [hp.eq_nil]; exact Int.le_refl _
  | x :: Q, P, t, hq, hp => by
    rw [List.pairwise_cons] at hq
    obtain ⟨A, B, rfl⟩ := List.append_of_mem (hp.mem_iff.2 (show x ∈ x :: Q by simp))
    have hp2 : (A ++ B).Perm Q := List.Perm.cons_inv (List.perm_middle.symm.trans hp)
    have h1 := pl_insert d w x [] Q t
    have h2 := pl_insert d w x A B t
    rw [List.nil_append, List.nil_append, sw, Int.add_zero] at h1
    rw [h1, h2]
    have ih := smith d w Q (A ++ B) t hq.2 hp2
    have h3 : sw w Q = sw w A + sw w B := by rw [← sw_perm hp2, sw_append]
    have h4 : d x * sw w A ≤ w x * sw d A := by
      rw [← sw_mul, ← sw_mul]
      exact sw_le _ _ A (fun a ha => by
        have := hq.1 a (hp2.mem_iff.1 (by simp [ha]))
        rw [Int.mul_comm (d x)]; exact this)
    have h5 : w x * (t + sw d A + d x) = w x * (t + d x) + w x * sw d A := by rw [← Int.mul_add]; congr 1; omega
    rw [h3, Int.mul_add (d x), h5]
    omega
/-- The numbers ahead of i. -/
theorem rateTo_mem (d w : Int → Int) : ∀ (i : Nat) (x : Int), x ∈ rateTo d w i ↔ 0 ≤ x ∧ x < i
  | 0, x => by simp [rateTo]
  | i + 1, x => by
    have h : x ∈ rateTo d w i ↔ x ∈ (rateTo d w i).takeWhile (ahd d w · i) ∨ x ∈ (rateTo d w i).dropWhile (ahd d w · i) := by
      rw [← List.mem_append, List.takeWhile_append_dropWhile]
    have ih := rateTo_mem d w i x
    rw [rateTo, List.mem_append, List.mem_cons]
    push_cast
    constructor
    · rintro (h1 | h1 | h1)
      · have := ih.1 (h.2 (.inl h1)); omega
      · omega
      · have := ih.1 (h.2 (.inr h1)); omega
    · intro h1
      by_cases h2 : x = i
      · exact .inr (.inl h2)
      · rcases h.1 (ih.2 (by omega)) with h3 | h3
        · exact .inl h3
        · exact .inr (.inr h3)
theorem rateTo_length (d w : Int → Int) : ∀ i : Nat, (rateTo d w i).length = i
  | 0 => rfl
  | i + 1 => by
    have h := congrArg List.length (List.takeWhile_append_dropWhile (p := (ahd d w · i)) (l := rateTo d w i))
    rw [List.length_append, rateTo_length d w i] at h
    rw [rateTo, List.length_append, List.length_cons]; omega
/-- Rates that are fractions. -/
def RateFit (d : Int → Int) (n : Nat) : Prop := ∀ x : Int, 0 ≤ x → x < (n : Int) → 0 < d x
theorem rate_trans {d w : Int → Int} {n : Nat} (hf : RateFit d n) {x y z : Int} (hy : 0 ≤ y ∧ y < n) (h1 : w y * d x ≤ w x * d y) (h2 : w z * d y ≤ w y * d z) (hx : 0 ≤ x ∧ x < n) (hz : 0 ≤ z ∧ z < n) : w z * d x ≤ w x * d z := by
  have py := hf y hy.1 hy.2
  have px := hf x hx.1 hx.2
  have pz := hf z hz.1 hz.2
  have a1 := Int.mul_le_mul_of_nonneg_right h1 (Int.le_of_lt pz)
  have a2 := Int.mul_le_mul_of_nonneg_right h2 (Int.le_of_lt px)
  have e1 : w y * d x * d z = w y * d z * d x := by rw [Int.mul_assoc, Int.mul_comm (d x), ← Int.mul_assoc]
  have e2 : w x * d y * d z = w x * d z * d y := by rw [Int.mul_assoc, Int.mul_comm (d y), ← Int.mul_assoc]
  have e3 : w z * d y * d x = w z * d x * d y := by rw [Int.mul_assoc, Int.mul_comm (d y), ← Int.mul_assoc]
  rw [e1, e2] at a1
  rw [e3] at a2
  exact Int.le_of_mul_le_mul_right (Int.le_trans a2 a1) py
theorem rlt_false {d w : Int → Int} {x y : Int} : rlt d w x y = false ↔ w x * d y ≤ w y * d x := by unfold rlt; rw [decide_eq_false_iff_not]; omega
theorem rlt_true {d w : Int → Int} {x y : Int} : rlt d w x y = true ↔ w y * d x < w x * d y := by unfold rlt; rw [decide_eq_true_iff]
/-- Ahead of a number that is greater than all others. -/
theorem ahd_last {d w : Int → Int} {x y : Int} (h : x < y) : ahd d w x y = !rlt d w y x := by
  unfold ahd
  cases h1 : rlt d w y x with
  | false => simp [h]
  | true =>
    have h2 : rlt d w x y = false := by rw [rlt_true] at h1; rw [rlt_false]; omega
    simp [h2]
theorem ahd_le {d w : Int → Int} {x y : Int} (h : ahd d w x y = true) : w y * d x ≤ w x * d y := by
  unfold ahd at h
  simp only [Bool.or_eq_true, Bool.and_eq_true, Bool.not_eq_true', decide_eq_true_eq] at h
  rcases h with h | h
  · rw [rlt_true] at h; omega
  · exact rlt_false.1 h.1
theorem take_all {p : Int → Bool} : ∀ (A B : List Int), (∀ a, a ∈ A → p a = true) → (∀ b, B.head? = some b → p b = false) → (A ++ B).takeWhile p = A ∧ (A ++ B).dropWhile p = B
  | [], [], _, _ => by simp
  | [], b :: B, _, h => by simp [h b rfl]
  | a :: A, B, h1, h2 => by
    have ih := take_all A B (fun x hx => h1 x (by simp [hx])) h2
    rw [List.cons_append, List.takeWhile_cons, List.dropWhile_cons, h1 a (by simp), if_pos rfl, if_pos rfl, ih.1, ih.2]
    exact ⟨rfl, rfl⟩
theorem tw_all {p : Int → Bool} : ∀ (L : List Int) (a : Int), a ∈ L.takeWhile p → p a = true
  | [], a, h => by simp at h
  | b :: L, a, h => by
    rw [List.takeWhile_cons] at h
    split at h
    · rename_i hb
      rcases List.mem_cons.1 h with rfl | h
      · exact hb
      · exact tw_all L a h
    · simp at h
theorem dw_head {p : Int → Bool} : ∀ (L : List Int) (b : Int) (B : List Int), L.dropWhile p = b :: B → p b = false
  | [], b, B, h => by simp at h
  | a :: L, b, B, h => by
    rw [List.dropWhile_cons] at h
    split at h
    · exact dw_head L b B h
    · rename_i ha
      injection h with h1 _
      subst h1; simpa using ha
/-- Any two are in their order. -/
theorem rateTo_sorted {d w : Int → Int} {n : Nat} (hf : RateFit d n) : ∀ i : Nat, i ≤ n → (rateTo d w i).Pairwise (fun x y => w y * d x ≤ w x * d y)
  | 0, _ => by simp [rateTo]
  | i + 1, hi => by
    have ih := rateTo_sorted (w := w) hf i (by omega)
    have hm := rateTo_mem d w i
    have hs := List.takeWhile_append_dropWhile (p := (ahd d w · i)) (l := rateTo d w i)
    have ht := tw_all (p := (ahd d w · i)) (rateTo d w i)
    have hd := dw_head (p := (ahd d w · i)) (rateTo d w i)
    rw [rateTo]
    obtain ⟨A, hA⟩ : ∃ A, A = (rateTo d w i).takeWhile (ahd d w · i) := ⟨_, rfl⟩
    obtain ⟨B, hB⟩ : ∃ B, B = (rateTo d w i).dropWhile (ahd d w · i) := ⟨_, rfl⟩
    rw [← hA, ← hB] at hs ⊢
    rw [← hA] at ht
    rw [← hB] at hd
    have hin : ∀ x, x ∈ A ∨ x ∈ B → 0 ≤ x ∧ x < i := fun x hx => (hm x).1 (by rw [← hs, List.mem_append]; exact hx)
    rw [← hs, List.pairwise_append] at ih
    have hB : ∀ b, b ∈ B → w b * d i ≤ w i * d b := fun b hb => by
      cases B with
      | nil => simp at hb
      | cons c B =>
        have hc := hd c B rfl
        have hcn := hin c (.inr (by simp))
        have hc2 : w c * d i ≤ w i * d c := by
          replace hc : ahd d w c i = false := hc
          rw [ahd_last (by omega)] at hc
          have : rlt d w i c = true := by simpa using hc
          rw [rlt_true] at this; omega
        rcases List.mem_cons.1 hb with rfl | hb
        · exact hc2
        · have h1 := (List.pairwise_cons.1 ih.2.1).1 b hb
          have hbn := hin b (.inr (by simp [hb]))
          exact rate_trans hf (by omega) hc2 h1 (by omega) (by omega)
    rw [List.pairwise_append, List.pairwise_cons]
    refine ⟨ih.1, ⟨hB, ih.2.1⟩, fun a ha b hb => ?_⟩
    rcases List.mem_cons.1 hb with rfl | hb
    · exact ahd_le (ht a ha)
    · exact ih.2.2 a ha b hb
theorem rateTo_nodup (d w : Int → Int) : ∀ i : Nat, (rateTo d w i).Nodup
  | 0 => by simp [rateTo]
  | i + 1 => by
    have ih := rateTo_nodup d w i
    have hm := rateTo_mem d w i
    have hs := List.takeWhile_append_dropWhile (p := (ahd d w · i)) (l := rateTo d w i)
    rw [rateTo]
    have hp : ((rateTo d w i).takeWhile (ahd d w · i) ++ (i : Int) :: (rateTo d w i).dropWhile (ahd d w · i)).Perm ((i : Int) :: rateTo d w i) := by
      refine List.perm_middle.trans ?_
      rw [hs]
    refine List.Nodup.perm ?_ hp.symm
    rw [List.nodup_cons]
    exact ⟨fun h => by have := (hm i).1 h; omega, ih⟩
/-! The sort by insertion. -/
def insRev (lt : Int → Int → Bool) (x : Int) : List Int → List Int
  | [] => [x]
  | y :: R => if lt x y then insRev lt x R ++ [y] else (y :: R).reverse ++ [x]
theorem get_mid (A B : List Int) (x : Int) (i : Nat) (hi : i = A.length) : (A ++ x :: B).toArray[i]! = x := by
  subst hi
  rw [getElem!_pos _ _ (by simp)]
  simp
theorem swp_mid (A B : List Int) (x y : Int) (i : Nat) (hi : i = A.length) : swp (A ++ y :: x :: B).toArray (i + 1) i = (A ++ x :: y :: B).toArray := by
  have h1 : (A ++ y :: x :: B).toArray[i]! = y := get_mid A (x :: B) y i hi
  have h2 : (A ++ y :: x :: B).toArray[i + 1]! = x := by
    have := get_mid (A ++ [y]) B x (i + 1) (by simp [hi])
    simpa using this
  unfold swp
  rw [h1, h2, List.setIfInBounds_toArray, List.setIfInBounds_toArray]
  subst hi
  congr 1
  rw [show A.length + 1 = A.length + 1 from rfl, List.set_append_right _ _ (by omega), show A.length + 1 - A.length = 1 by omega, List.set_append_right _ _ (Nat.le_refl _), Nat.sub_self]
  rfl
theorem insInner_list (lt : Int → Int → Bool) (x : Int) : ∀ (R B : List Int), insInner lt 0 R.length (R.reverse ++ x :: B).toArray = (insRev lt x R ++ B).toArray
  | [], B => by simp [insInner, insRev]
  | y :: R, B => by
    have e : (y :: R).reverse ++ x :: B = R.reverse ++ y :: x :: B := by simp
    have h1 : (R.reverse ++ y :: x :: B).toArray[R.length]! = y := get_mid R.reverse (x :: B) y _ (by simp)
    have h2 : (R.reverse ++ y :: x :: B).toArray[R.length + 1]! = x := by simp
    rw [List.length_cons, e, insInner, h1, h2, insRev]
    cases hl : lt x y with
    | true =>
      rw [if_pos (by simp), if_pos rfl, swp_mid _ _ _ _ _ (by simp), insInner_list lt x R (y :: B)]
      simp
    | false =>
      rw [if_neg (by simp), if_neg (by simp)]
      simp
theorem insRev_spec (lt : Int → Int → Bool) (x : Int) : ∀ R : List Int, ∃ A B, R.reverse = A ++ B ∧ insRev lt x R = A ++ x :: B ∧ (∀ b, b ∈ B → lt x b = true) ∧ ∀ a A', A = A' ++ [a] → lt x a = false
  | [] => ⟨[], [], rfl, rfl, fun b hb => by simp at hb, fun a A' h => by simp at h⟩
  | y :: R => by
    rw [insRev]
    cases hl : lt x y with
    | true =>
      obtain ⟨A, B, h1, h2, h3, h4⟩ := insRev_spec lt x R
      refine ⟨A, B ++ [y], by simp [h1], by rw [if_pos rfl, h2]; simp, fun b hb => ?_, h4⟩
      rcases List.mem_append.1 hb with h | h
      · exact h3 b h
      · obtain rfl : b = y := by simpa using h
        exact hl
    | false =>
      refine ⟨(y :: R).reverse, [], by simp, by simp, fun b hb => by simp at hb, fun a A' h => ?_⟩
      rw [List.reverse_cons] at h
      have := List.append_inj' h rfl
      obtain rfl : y = a := by simpa using this.2
      exact hl
theorem insRev_rate {d w : Int → Int} {n : Nat} (hf : RateFit d n) (i : Nat) (hi : i < n) : insRev (rlt d w) i (rateTo d w i).reverse = rateTo d w (i + 1) := by
  obtain ⟨A, B, h1, h2, h3, h4⟩ := insRev_spec (rlt d w) i (rateTo d w i).reverse
  have hs := rateTo_sorted (w := w) hf i (by omega)
  have hm := rateTo_mem d w i
  rw [List.reverse_reverse] at h1
  rw [h1] at hs hm
  have hA : ∀ a, a ∈ A → ahd d w a i = true := fun a ha => by
    have han := (hm a).1 (by simp [ha])
    rw [ahd_last (by omega)]
    rcases List.eq_nil_or_concat A with rfl | ⟨A', l, rfl⟩
    · simp at ha
    · rw [List.concat_eq_append] at ha h4 hs hm
      have hl := h4 l A' rfl
      have hln := (hm l).1 (by simp)
      rcases List.mem_append.1 ha with ha | ha
      · rw [List.append_assoc, List.pairwise_append] at hs
        have h5 := hs.2.2 a ha l (by simp)
        have : rlt d w i a = false := rlt_false.2 (rate_trans hf (by omega) h5 (rlt_false.1 hl) (by omega) (by omega))
        simp [this]
      · obtain rfl : a = l := by simpa using ha
        simp [hl]
  have hB : ∀ b, B.head? = some b → ahd d w b i = false := fun b hb => by
    cases B with
    | nil => cases hb
    | cons c B =>
      obtain rfl : c = b := by simpa using hb
      have hcn := (hm c).1 (by simp)
      rw [ahd_last (by omega), h3 c (by simp)]
      rfl
  obtain ⟨t1, t2⟩ := take_all (p := (ahd d w · i)) A B hA hB
  rw [h2, rateTo, h1, t1, t2]
theorem tw_congr {p q : Int → Bool} : ∀ L : List Int, (∀ a, a ∈ L → p a = q a) → L.takeWhile p = L.takeWhile q ∧ L.dropWhile p = L.dropWhile q
  | [], _ => ⟨rfl, rfl⟩
  | a :: L, h => by
    have ih := tw_congr L (fun b hb => h b (by simp [hb]))
    rw [List.takeWhile_cons, List.takeWhile_cons, List.dropWhile_cons, List.dropWhile_cons, h a (by simp), ih.1, ih.2]
    exact ⟨rfl, rfl⟩
theorem rateTo_congr {d w d' w' : Int → Int} {n : Nat} (h : ∀ x : Int, 0 ≤ x → x < (n : Int) → d x = d' x ∧ w x = w' x) : ∀ i : Nat, i ≤ n → rateTo d w i = rateTo d' w' i
  | 0, _ => rfl
  | i + 1, hi => by
    have ih := rateTo_congr h i (by omega)
    have hm := rateTo_mem d' w' i
    have hc := tw_congr (p := (ahd d w · i)) (q := (ahd d' w' · i)) (rateTo d' w' i) (fun a ha => by
      have := (hm a).1 ha
      have h1 := h a (by omega) (by omega)
      have h2 := h i (by omega) (by omega)
      show ahd d w a i = ahd d' w' a i
      unfold ahd rlt
      rw [h1.1, h1.2, h2.1, h2.2])
    rw [rateTo, rateTo, ih, hc.1, hc.2]
def upTo (n : Nat) : List Int := (List.range n).map fun k : Nat => (k : Int)
theorem insOuter_rate {d w : Int → Int} {n : Nat} (hf : RateFit d n) : ∀ (r i : Nat), i + r = n → insOuter (rlt d w) 0 n i (rateTo d w i ++ (upTo n).drop i).toArray = (rateTo d w n).toArray
  | 0, i, h => by
    obtain rfl : i = n := by omega
    rw [insOuter, if_neg (by omega), List.drop_of_length_le (by simp [upTo]), List.append_nil]
  | r + 1, i, h => by
    have hd : (upTo n).drop i = (i : Int) :: (upTo n).drop (i + 1) := by
      rw [List.drop_eq_getElem_cons (by simp [upTo]; omega)]
      simp [upTo]
    have hin := insInner_list (rlt d w) i (rateTo d w i).reverse ((upTo n).drop (i + 1))
    rw [List.reverse_reverse, List.length_reverse, rateTo_length, insRev_rate hf i (by omega)] at hin
    rw [insOuter, if_pos (by omega), hd, hin]
    exact insOuter_rate hf r (i + 1) (by omega)
theorem sort_rate {d w : Int → Int} {n : Nat} (hf : RateFit d n) : insertionSort (rlt d w) (upTo n).toArray 0 n = (rateTo d w n).toArray := by
  unfold insertionSort
  rcases Nat.eq_zero_or_pos n with rfl | h
  · rw [insOuter, if_neg (by omega)]; rfl
  · have h1 := insOuter_rate (w := w) hf (n - 1) 1 (by omega)
    have e : rateTo d w 1 ++ (upTo n).drop 1 = upTo n := by
      have hd : (upTo n).drop 0 = ((0 : Nat) : Int) :: (upTo n).drop 1 := by
        rw [List.drop_eq_getElem_cons (by simp [upTo]; omega)]
        simp [upTo]
      rw [List.drop_zero] at hd
      conv => rhs; rw [hd]
      rfl
    rw [e] at h1
    exact h1
end Go.Proofs.Ytglncadfmomamaa
