/- In fair weather the order by rates loses least: plain. -/
import Derived.Test.YtglncadfmomamaaLex
import Derived.Test.YtglncadfmomamaaRate
namespace Go.Proofs.Ytglncadfmomamaa
set_option linter.unusedVariables false
set_option linter.unusedSimpArgs false
def jd (J : List Jb) (x : Int) : Int := (jAt J x).d
def jw (J : List Jb) (x : Int) : Int := (jAt J x).w
def rateV (J : List Jb) : List Int := rateTo (jd J) (jw J) J.length
theorem jobs_rate {J : List Jb} (h : JobsFit J) : RateFit (jd J) J.length := fun x h0 h1 => by
  obtain ⟨k, rfl⟩ := Int.eq_ofNat_of_zero_le h0
  have := h k (by omega)
  unfold jd
  omega
theorem rateV_length (J : List Jb) : (rateV J).length = J.length := rateTo_length _ _ _
theorem rateV_ok (J : List Jb) : PreOk J.length (rateV J) := ⟨fun x hx => (rateTo_mem _ _ _ x).1 hx, rateTo_nodup _ _ _⟩
theorem rateV_in {l : List UInt8} {J : List Jb} (h : planV l J = true) : planInV l J (rateV J) = true := planIn_any' h (rateV_ok J) (rateV_length J)
theorem plan_fit {l : List UInt8} {J : List Jb} (h : planV l J = true) : JobsFit J := (planIn_fit (planIn_first h)).2.2.1
theorem plan_days {l : List UInt8} {J : List Jb} (h : planV l J = true) : 0 ≤ jDays J ∧ jDays J ≤ fcAhead l l.length := by
  have h1 := plan_work (planIn_first h)
  obtain ⟨_, _, _, hpf, _, _⟩ := planIn_fit (planIn_first h)
  have := hpf.2.2 _ (Nat.le_refl _)
  rw [h1.1] at this
  exact ⟨this.1, h1.2.1⟩
theorem fcAhead_fair {l : List UInt8} {m : Nat} (h : fcAhead l m = m) : ∀ r k, k + r = m → fcAhead l k = k
  | 0, k, e => by rw [show k = m by omega]; exact h
  | r + 1, k, e => by
    have ih := fcAhead_fair h r (k + 1) (by omega)
    have h1 := fcAhead_le l k
    rcases Nat.lt_or_ge k l.length with h2 | h2
    · rw [fcAhead_succ l k h2] at ih
      split at ih <;> omega
    · rw [fcAhead_past l (k + 1) (by omega), ← fcAhead_past l k h2] at ih
      omega
theorem fcEnd_fair {l : List UInt8} {m : Nat} (h : fcAhead l m = m) (x : Int) (h0 : 0 ≤ x) (h1 : x ≤ m) : fcEnd l x = x := by
  obtain ⟨k, rfl⟩ := Int.eq_ofNat_of_zero_le h0
  have hk := fcAhead_fair h (m - k) k (by omega)
  have hle : k ≤ fcAhead l l.length := by
    have : fcAhead l k ≤ fcAhead l l.length := by
      rcases Nat.lt_or_ge k l.length with h2 | h2
      · exact fcAhead_mono l k l.length (by omega)
      · rw [fcAhead_past l k h2]; exact Nat.le_refl _
    omega
  rw [fcEnd_on hle, ← fcDayN_eq l k k hle (by omega) (fun e he => by have := fcAhead_le l e; omega)]
theorem pl_snoc (d w : Int → Int) (k : Int) : ∀ (A : List Int) (t : Int), pl d w t (A ++ [k]) = pl d w t A + w k * (t + sw d A + d k)
  | [], t => by simp [pl, sw]
  | a :: A, t => by rw [List.cons_append, pl, pl, pl_snoc d w k A, sw, show t + d a + sw d A + d k = t + (d a + sw d A) + d k by omega]; omega
theorem loss_pl {l : List UInt8} {J : List Jb} {m : Nat} (h : fcAhead l m = m) : ∀ (r : Nat) (x : List Int), x.length = r → (∀ y, y ∈ x → 0 ≤ y) → (∀ k, k ≤ x.length → 0 ≤ workTo J x k ∧ workTo J x k ≤ m) → lossV l J x = pl (jd J) (jw J) 0 x ∧ wkf J x = sw (jd J) x
  | 0, x, hr, _, _ => by
    obtain rfl : x = [] := List.length_eq_zero_iff.1 hr
    exact ⟨rfl, rfl⟩
  | r + 1, x, hr, hx, hk => by
    rcases List.eq_nil_or_concat x with rfl | ⟨A, b, rfl⟩
    · simp at hr
    rw [List.concat_eq_append] at hr hx hk ⊢
    have hl : A.length = r := by simpa using hr
    obtain ⟨q, rfl⟩ := Int.eq_ofNat_of_zero_le (hx b (by simp))
    obtain ⟨i1, i2⟩ := loss_pl h r A hl (fun y hy => hx y (by simp [hy])) (fun k hk2 => by
      have := hk k (by simp; omega)
      rwa [workTo_pre J A _ k hk2] at this)
    have hw := hk (A ++ [(q : Int)]).length (Nat.le_refl _)
    have hs := wkf_snoc J A q
    unfold wkf at hs
    rw [hs] at hw
    rw [lossV_snoc, wkf_snoc, pl_snoc, sw_append, i1, i2, fcEnd_fair h _ (by rw [← i2]; exact hw.1) (by rw [← i2]; exact hw.2), Int.zero_add]
    exact ⟨rfl, by simp [sw, jd]⟩
theorem plan_pl {l : List UInt8} {J : List Jb} {P : List Int} {m : Nat} (h : planInV l J P = true) (hm : jDays J = m) (hf : fcAhead l m = m) : lossV l J P = pl (jd J) (jw J) 0 P := by
  obtain ⟨_, _, hjf, hpf, hlen, hperm⟩ := planIn_fit h
  have hw := plan_work h
  refine (loss_pl hf P.length P rfl (fun y hy => by have := (permB_spec hperm).1 y hy; omega) (fun k hk => ⟨(hpf.2.2 k hk).1, ?_⟩)).1
  have h1 := workTo_mono hjf hpf.2.1 (P.length - k) k (by omega)
  rw [show k + (P.length - k) = P.length by omega, hw.1] at h1
  omega
theorem perm_same {n : Nat} {x y : List Int} (hx : PreOk n x) (hxl : x.length = n) (hy : PreOk n y) (hyl : y.length = n) : x.Perm y := by
  have key : ∀ {x : List Int}, PreOk n x → x.length = n → x.Perm ((List.range n).map fun k : Nat => (k : Int)) := fun {x} hx hxl => by
    refine (List.perm_ext_iff_of_nodup hx.2 (range_ok n).2).2 (fun a => ⟨fun ha => ?_, fun ha => ?_⟩)
    · have := hx.1 a ha
      obtain ⟨k, rfl⟩ := Int.eq_ofNat_of_zero_le this.1
      exact List.mem_map.2 ⟨k, List.mem_range.2 (by omega), rfl⟩
    · apply Classical.byContradiction
      intro hn
      have h1 := (range_ok n).1 a ha
      have h2 := sub_len (a :: x) ((List.range n).map fun k : Nat => (k : Int)) (List.nodup_cons.2 ⟨hn, hx.2⟩) (fun y hy => by
        rcases List.mem_cons.1 hy with rfl | hy
        · exact ha
        · have := hx.1 y hy
          obtain ⟨k, rfl⟩ := Int.eq_ofNat_of_zero_le this.1
          exact List.mem_map.2 ⟨k, List.mem_range.2 (by omega), rfl⟩)
      simp at h2
      omega
  exact (key hx hxl).trans (key hy hyl).symm
theorem fair_best {l : List UInt8} {J : List Jb} {m : Nat} (h : planV l J = true) (hm : jDays J = m) (hf : fcAhead l m = m) : lossV l J (rateV J) = lossV l J (bestP l J) := by
  obtain ⟨b1, _, b3⟩ := bestP_least h
  have h1 := (b3 _ (rateV_in h)).1
  have hbl := (planIn_fit b1).2.2.2.2.1
  have hbp := permB_spec (planIn_fit b1).2.2.2.2.2
  have hs := smith (jd J) (jw J) (rateV J) (bestP l J) 0 (rateTo_sorted (jobs_rate (plan_fit h)) _ (Nat.le_refl _))
    (perm_same (n := J.length) ⟨fun x hx => by have := hbp.1 x hx; rw [hbl] at this; exact this, hbp.2⟩ hbl (rateV_ok J) (rateV_length J))
  rw [← plan_pl (rateV_in h) hm hf, ← plan_pl b1 hm hf] at hs
  omega
theorem rate_next {J : List Jb} (h : JobsFit J) (i : Nat) (hi : i + 1 < J.length) : ¬ jw J ((rateV J).getD i 0) * jd J ((rateV J).getD (i + 1) 0) < jw J ((rateV J).getD (i + 1) 0) * jd J ((rateV J).getD i 0) := by
  have hs := rateTo_sorted (w := jw J) (jobs_rate h) _ (Nat.le_refl _)
  have hl := rateV_length J
  unfold rateV at hl
  rw [List.pairwise_iff_getElem] at hs
  have := hs i (i + 1) (by omega) (by omega) (by omega)
  unfold rateV
  rw [List.getD, List.getElem?_eq_getElem (by omega), List.getD, List.getElem?_eq_getElem (by omega)]
  simp only [Option.getD_some]
  omega
end Go.Proofs.Ytglncadfmomamaa
