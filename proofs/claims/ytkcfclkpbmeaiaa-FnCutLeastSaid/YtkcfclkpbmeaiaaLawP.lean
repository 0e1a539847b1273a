/- What the laws of nets say, in plain numbers. -/
import Derived.Test.YtkcfclkpbmeaiaaWeak
import Derived.Test.YtkcfclkpbmeaiaaLeast
import Derived.Test.YtkcfclkpbmeaiaaAdd
import Derived.Test.YtkcfclkpbmeaiaaTree
import Derived.Test.YtkcfclkpbmeaiaaWout
namespace Go.Proofs.Ytkcfclkpbmeaiaa
set_option linter.unusedVariables false
set_option linter.unusedSimpArgs false
open Go.RowKit
theorem mostV_off {n : Int} {L : List Ln} {p q : Int} (h : ¬ mostV n L p q < 0) : twoOk n L p q = true := by
  cases h1 : twoOk n L p q with
  | true => rfl
  | false => rw [mostV, h1] at h; simp at h
theorem two_swap {n : Int} {L : List Ln} {p q : Int} (h : twoOk n L p q = true) : twoOk n L q p = true := by
  unfold twoOk at h ⊢
  simp only [Bool.and_eq_true, Bool.not_eq_true', beq_eq_false_iff_ne] at h ⊢
  exact ⟨h.1, h.2.2.1, h.2.1, fun e => h.2.2.2 e.symm⟩
theorem most_two {n : Int} {L : List Ln} {p q : Int} (h : twoOk n L p q = true) : ∃ nn pp qq t : Nat, n = nn ∧ p = pp ∧ q = qq ∧ pp < nn ∧ qq < nn ∧ pp ≠ qq ∧ nn ≤ 6 ∧ 2 ≤ nn ∧ netIn nn L ∧ L.length ≤ 10 ∧ mostV n L p q = t ∧ Most L nn pp qq (loadV n L p q) t := by
  obtain ⟨nn, pp, qq, rfl, rfl, rfl, n2, n6, hp, hq, hpq, hin, hL10⟩ := two_nat h
  exact ⟨nn, pp, qq, _, rfl, rfl, rfl, hp, hq, hpq, n6, n2, hin, hL10, mostV_nat h, by rw [loadV_nat h]; exact most_ok hin hL10 hp hq hpq⟩
theorem mostV_cut {n : Int} {L : List Ln} {p q : Int} (h : twoOk n L p q = true) : MinCut L p q (mostV n L p q) := by
  obtain ⟨nn, pp, qq, t, rfl, rfl, rfl, hp, hq, hpq, n6, n2, hin, hL10, ht, hm⟩ := most_two h
  rw [ht]; exact hm.minCut hin hp
theorem mostV_swap {n : Int} {L : List Ln} {p q : Int} (h : twoOk n L p q = true) : mostV n L q p = mostV n L p q :=
  (mostV_cut (two_swap h)).uniq (mostV_cut h).symm
/-- A load is kept, and goes from p on. -/
theorem LoadP.kept {n : Int} {L : List Ln} {p q : Int} {f : List Int} (h : LoadP n L p q f) : kept n.toNat L f p q ∧ 0 ≤ outAt L f p := by
  obtain ⟨h1, h2, h3, h4⟩ := h
  obtain ⟨nn, pp, qq, rfl, rfl, rfl, n2, n6, hp, hq, hpq, hin, hL10⟩ := two_nat h1
  refine ⟨fun s hs e1 e2 => ?_, ?_⟩
  · have := h4 s (by omega)
    unfold stBad at this
    simp at this
    exact this.1 (by omega) (by omega)
  · have := h4 pp (by omega)
    unfold stBad at this
    simp at this
    omega
theorem LoadP.mk {n : Int} {L : List Ln} {p q : Int} {f : List Int} (h1 : twoOk n L p q = true) (h2 : f.length = L.length) (h3 : caps L f) (h4 : Go.Proofs.Ytkcfclkpbmeaiaa.kept n.toNat L f p q) (h5 : 0 ≤ outAt L f p) : LoadP n L p q f := by
  obtain ⟨nn, pp, qq, rfl, rfl, rfl, n2, n6, hp, hq, hpq, hin, hL10⟩ := two_nat h1
  refine ⟨h1, h2, h3, fun s hs => ?_⟩
  unfold stBad
  have h6 := h4 s (by omega)
  by_cases e1 : (s : Int) = pp
  · have e1' : ((s : Int) == (pp : Int)) = true := bT e1
    have e2' : ((s : Int) != (pp : Int)) = false := nF e1
    rw [e1', e2', e1]
    simp; omega
  · have e1' : ((s : Int) == (pp : Int)) = false := bF e1
    rw [e1']
    by_cases e2 : (s : Int) = qq
    · have e2' : ((s : Int) != (qq : Int)) = false := nF e2
      rw [e2']; simp
    · rw [h6 e1 e2]; simp
theorem load_is {n : Int} {L : List Ln} {p q : Int} (h : twoOk n L p q = true) : LoadP n L p q (loadV n L p q) ∧ outAt L (loadV n L p q) p = mostV n L p q := by
  obtain ⟨nn, pp, qq, t, rfl, rfl, rfl, hp, hq, hpq, n6, n2, hin, hL10, ht, hm⟩ := most_two h
  exact ⟨LoadP.mk h hm.run.len hm.run.caps hm.run.keep (by rw [hm.run.out]; omega), by rw [ht]; exact hm.run.out⟩
theorem load_zero {n : Int} {L : List Ln} {p q : Int} (h : twoOk n L p q = true) : LoadP n L p q (List.replicate L.length 0) ∧ outAt L (List.replicate L.length 0) p = 0 := by
  obtain ⟨nn, pp, qq, rfl, rfl, rfl, n2, n6, hp, hq, hpq, hin, hL10⟩ := two_nat h
  exact ⟨LoadP.mk h (by simp) (caps_zero hin _) (fun s _ _ _ => outAt_zero _ _ _) (by rw [outAt_zero]; exact Int.le_refl _), outAt_zero _ _ _⟩
theorem caps_neg {L : List Ln} {f : List Int} (h : caps L f) : caps L (f.map fun x => 0 - x) := by
  refine caps_mk fun k l x hl hx => ?_
  simp only [List.getElem?_map, Option.map_eq_some_iff] at hx
  obtain ⟨y, hf, rfl⟩ := hx
  have := caps_get h hl hf
  omega
theorem neg_map (f : List Int) : (f.map fun x => 0 - x) = f.map fun x => -x := List.map_congr_left fun x _ => by omega
theorem load_back {n : Int} {L : List Ln} {p q : Int} {f : List Int} (h : LoadP n L p q f) : LoadP n L q p (f.map fun x => 0 - x) ∧ outAt L (f.map fun x => 0 - x) q = outAt L f p := by
  obtain ⟨hk, h0⟩ := h.kept
  obtain ⟨h1, h2, h3, h4⟩ := h
  have hc := caps_neg h3
  have h1' := two_swap h1
  obtain ⟨nn, pp, qq, rfl, rfl, rfl, n2, n6, hp, hq, hpq, hin, hL10⟩ := two_nat h1
  have hb := out_back hin (p := pp) (q := qq) (by omega) (by omega) (by omega) (by omega) (by omega) hk
  have e : outAt L (f.map fun x => 0 - x) qq = outAt L f pp := by rw [neg_map, outAt_neg, hb]; omega
  refine ⟨LoadP.mk h1' (by simp [h2]) hc (fun s hs e1 e2 => ?_) (by rw [e]; exact h0), e⟩
  rw [neg_map, outAt_neg, hk s hs e2 e1]; rfl
theorem load_le_cut {n : Int} {L : List Ln} {p q : Int} {f : List Int} (h : LoadP n L p q f) {S : Int → Bool} (h1 : S p = true) (h2 : S q = false) : outAt L f p ≤ cutVal S L := by
  obtain ⟨hk, h0⟩ := h.kept
  obtain ⟨nn, pp, qq, rfl, rfl, rfl, n2, n6, hp, hq, hpq, hin, hL10⟩ := two_nat h.1
  exact out_le_cut hin (by omega) (by omega) hk h.2.2.1 h1 h2
theorem load_le_most {n : Int} {L : List Ln} {p q : Int} {f : List Int} (h : LoadP n L p q f) : outAt L f p ≤ mostV n L p q := by
  obtain ⟨S, h1, h2, h3⟩ := (mostV_cut h.1).ex
  rw [← h3]; exact load_le_cut h h1 h2
theorem CutP.sides {n : Int} {L : List Ln} {p q : Int} {s : List Int} (h : CutP n L p q s) : sideF s p = true ∧ sideF s q = false := by
  obtain ⟨h1, h2, h3, h4, h5⟩ := h
  unfold sideF
  rw [h4, h5]; exact ⟨rfl, rfl⟩
theorem cut_ge {n : Int} {L : List Ln} {p q : Int} {s : List Int} (h : CutP n L p q s) : mostV n L p q ≤ cutVal (sideF s) L := (mostV_cut h.1).le _ h.sides.1 h.sides.2
/-- The least side is a cut, and the traffic is its value. -/
theorem least_is' {n : Int} {L : List Ln} {p q : Int} {xs : List Int} (h : LeastR n L p q xs true) : CutP n L p q xs ∧ cutVal (sideF xs) L = mostV n L p q := by
  rcases h with ⟨h1, rfl, _⟩ | ⟨_, _, h⟩
  · obtain ⟨nn, pp, qq, rfl, rfl, rfl, n2, n6, hp, hq, hpq, hin, hL10⟩ := two_nat h1
    obtain ⟨b, hb, hb1, hb2, hb3, hb4⟩ := least_is hin hp hq hpq
    have e : leastL (nn : Int).toNat L (pp : Int).toNat (qq : Int).toNat (2 ^ (nn : Int).toNat) = sideL b nn := by
      rw [Int.toNat_natCast, Int.toNat_natCast, Int.toNat_natCast, leastL, hb]
    rw [e]
    have hv : cutVal (sideF (sideL b nn)) L = cutVal (sideB b) L := cutVal_congr fun l hl => by
      have := hin l hl
      unfold sideF sideB
      rw [sideL_getD (by omega), sideL_getD (by omega)]
      constructor
      · cases b.testBit l.a.toNat <;> rfl
      · cases b.testBit l.b.toNat <;> rfl
    refine ⟨⟨h1, by rw [sideL_len], fun x hx => ?_, by rw [Int.toNat_natCast, sideL_getD hp, hb2]; rfl, by rw [Int.toNat_natCast, sideL_getD hq, hb3]; rfl⟩, ?_⟩
    · unfold sideL at hx
      rw [List.mem_map] at hx
      obtain ⟨i, _, rfl⟩ := hx
      split <;> omega
    · rw [hv]
      refine MinCut.uniq (L := L) (p := pp) (q := qq) ⟨⟨sideB b, ?_, ?_, rfl⟩, hb4⟩ (mostV_cut h1)
      · unfold sideB; rw [Int.toNat_natCast]; exact hb2
      · unfold sideB; rw [Int.toNat_natCast]; exact hb3
  · cases h
theorem LeastR.ok {n : Int} {L : List Ln} {p q : Int} {xs : List Int} {ok : Bool} (h : LeastR n L p q xs ok) : ok = twoOk n L p q := by
  rcases h with ⟨h1, _, h2⟩ | ⟨h1, _, h2⟩ <;> rw [h1, h2]
/-- What stands at a station. -/
def starTo (p : Int) (L : List Ln) : Nat → Int
  | 0 => 0
  | k + 1 => starTo p L k + match L[k]? with
    | none => 0
    | some l => if l.a = p ∨ l.b = p then l.c else 0
theorem star_cut {n : Nat} {p : Int} {L : List Ln} (hL : netIn n L) (k : Nat) (hk : k ≤ L.length) : starTo p L k = cutVal (fun s => s == p) (L.take k) := by
  induction k with
  | zero => rfl
  | succ k ih =>
    have hlt : k < L.length := by omega
    have hl : L[k]? = some L[k] := List.getElem?_eq_getElem hlt
    rw [starTo, cutVal_take _ hl, ih (by omega), hl]
    have := hL _ (List.getElem_mem hlt)
    have e : (if L[k].a = p ∨ L[k].b = p then L[k].c else 0) = cutTerm (fun s => s == p) L[k] := by
      unfold cutTerm
      by_cases h1 : L[k].a = p
      · have h2 : ¬ L[k].b = p := by omega
        have e1 : (L[k].a == p) = true := bT h1
        have e2 : (L[k].b == p) = false := bF h2
        simp only [e1, e2]
        rw [if_pos (.inl h1)]; rfl
      · have e1 : (L[k].a == p) = false := bF h1
        by_cases h2 : L[k].b = p
        · have e2 : (L[k].b == p) = true := bT h2
          simp only [e1, e2]
          rw [if_pos (.inr h2)]; rfl
        · have e2 : (L[k].b == p) = false := bF h2
          simp only [e1, e2]
          rw [if_neg (by simp [h1, h2])]; rfl
    simp only
    rw [e]
theorem star_all {n : Nat} {p : Int} {L : List Ln} (hL : netIn n L) : starTo p L L.length = cutVal (fun s => s == p) L := by
  rw [star_cut hL _ (Nat.le_refl _), List.take_length]
theorem star_bound {n : Nat} {p : Int} {L : List Ln} (hL : netIn n L) (k : Nat) (hk : k ≤ L.length) : 0 ≤ starTo p L k ∧ starTo p L k ≤ 9 * k := by
  rw [star_cut hL k hk]
  have h := cutVal_bound (n := n) (L := L.take k) (fun l hl => hL l (List.mem_of_mem_take hl)) (fun s => s == p)
  have : (L.take k).length = k := by simp; omega
  omega
end Go.Proofs.Ytkcfclkpbmeaiaa
