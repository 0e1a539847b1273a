/- The law FnPlanBest, walked. -/
import Derived.Test.YtglncadfmomamaaPrLaw
import Derived.Test.YtglncadfmomamaaSb
namespace Go.Proofs.Ytglncadfmomamaa
set_option linter.unusedVariables false
set_option linter.unusedSimpArgs false
open Go.RowKit
/-- Two neighbours of an order change places. -/
theorem swap_two {n k : Nat} {X : List Int} (hX : PreOk n X) (hl : X.length = n) (hk : k + 1 < n) : ∃ (p t : List Int) (x y : Int), X = p ++ x :: y :: t ∧ X[k]? = some x ∧ X[k + 1]? = some y ∧ (X.set (k + 1) x).set k y = p ++ y :: x :: t ∧ PreOk n (p ++ y :: x :: t) ∧ (p ++ y :: x :: t).length = n := by
  have h1 : X = X.take k ++ X[k] :: X[k + 1] :: X.drop (k + 2) := by
    rw [← List.drop_eq_getElem_cons (by omega), ← List.drop_eq_getElem_cons (by omega), List.take_append_drop]
  obtain ⟨p, hp⟩ : ∃ p, p = X.take k := ⟨_, rfl⟩
  obtain ⟨t, ht⟩ : ∃ t, t = X.drop (k + 2) := ⟨_, rfl⟩
  obtain ⟨x, hx⟩ : ∃ x, x = X[k] := ⟨_, rfl⟩
  obtain ⟨y, hy⟩ : ∃ y, y = X[k + 1] := ⟨_, rfl⟩
  have hpl : p.length = k := by rw [hp, List.length_take]; omega
  rw [← hp, ← ht, ← hx, ← hy] at h1
  have hperm : (p ++ y :: x :: t).Perm X := by
    rw [h1]; exact List.Perm.append_left p (List.Perm.swap x y t)
  refine ⟨p, t, x, y, h1, by rw [List.getElem?_eq_getElem (by omega), hx], by rw [List.getElem?_eq_getElem (by omega), hy], ?_, ⟨fun z hz => hX.1 z (hperm.mem_iff.1 hz), List.Nodup.perm hX.2 hperm.symm⟩, by rw [hperm.length_eq, hl]⟩
  rw [h1, ← hpl, List.set_append_right _ _ (by omega), show p.length + 1 - p.length = 1 by omega, List.set_append_right _ _ (Nat.le_refl _), Nat.sub_self]
  rfl
theorem best_ok {l : List UInt8} {J : List Jb} (h : planV l J = true) : PreOk J.length (bestP l J) ∧ (bestP l J).length = J.length := by
  obtain ⟨b1, _, _⟩ := bestP_least h
  have hbl := (planIn_fit b1).2.2.2.2.1
  have hbp := permB_spec (planIn_fit b1).2.2.2.2.2
  exact ⟨⟨fun x hx => by have := hbp.1 x hx; rw [hbl] at this; exact this, hbp.2⟩, hbl⟩
/-- What the law asks of two neighbours. -/
theorem best_two {l : List UInt8} {J : List Jb} (h : planV l J = true) (k : Nat) (hk : k + 1 < J.length) : ∃ (x y : Int) (Y : List Int), (bestP l J)[k]? = some x ∧ (bestP l J)[k + 1]? = some y ∧ ((bestP l J).set (k + 1) x).set k y = Y ∧ Y.length = J.length ∧ Y[k]? = some y ∧ planInV l J Y = true ∧ ¬ lossV l J Y < lossV l J (bestP l J) ∧ (lossV l J Y = lossV l J (bestP l J) → ¬ y < x) := by
  obtain ⟨h1, h2⟩ := best_ok h
  obtain ⟨p, t, x, y, e1, e2, e3, e4, e5, e6⟩ := swap_two h1 h2 hk
  have hz := planIn_any' h e5 e6
  obtain ⟨s1, s2⟩ := best_swap h p t x y e1 hz
  refine ⟨x, y, _, e2, e3, e4, e6, ?_, hz, s1, fun e hyx => s2 ⟨e, hyx⟩⟩
  rw [← e4, List.getElem?_set_self (by rw [List.length_set, h2]; omega)]
theorem pbR_one (l : List UInt8) (J : List Jb) : Fn1 (bestR l J) := fun xs ok ys ok' h1 h2 => ⟨h1.2.trans h2.2.symm, h1.1.trans h2.1.symm⟩
theorem pbR_len {l : List UInt8} {J : List Jb} {xs : List Int} {ok : Bool} (hJ : J.length ≤ 1048576) (h : bestR l J xs ok) : xs.length ≤ 1048576 := by
  rw [h.2]
  split
  · rename_i hv
    have := (best_ok hv).2
    unfold bestP at this
    rw [this]; exact hJ
  · simp
set_option maxHeartbeats 4000000 in
set_option maxRecDepth 100000 in
theorem law_PlanBest (a0 : Option Addr) (len0 cap0 : Nat) (z0 : List Int) (w : World) (w0 : ArgB w a0 len0 cap0 z0) :
    Calls Try.prog 6 #[.slice a0 len0 cap0] w fun e w' => e = .returned (.bool true) ∧ Below w.heap.size w w' := by
  obtain ⟨hl0, hm0, hby0⟩ := w0.byt
  have hm0' := hm0
  unfold maxLen at hm0'
  by_cases h0 : 1048576 < len0
  · go_enter Try.func6, Try.ntmps6
    go_wp2_with fail
    go_ret
    exact ⟨rfl, Below.refl _ _⟩
  have hdr := Lib.hid (drawPlanBest a0 len0 cap0 hl0 hm0 _ hby0)
  go_enter Try.func6, Try.ntmps6
  go_wp2_with fail
  refine hdr.out.mono ?_
  rintro e w1 ⟨s, A, c, J, rfl, hs, hJ4, ⟨hJc, hcm⟩, hJ, hbw⟩
  clear hdr hby0 hm0
  have hsm : s.size ≤ maxLen := by unfold maxLen; omega
  have HJ : Hid (∀ w', Below w1.heap.size w1 w' → Jbs w' w'.heap.size A J) := fun w' h => (hJ.below h).more h.size
  have hb := Below.refl w1.heap.size w1
  have H1 := Lib.hid (fun w' (h : Below w1.heap.size w1 w') => implBest s A c J hsm (by omega) w' (HJ.out w' h))
  have H2 := Lib.hid (fun w' (h : Below w1.heap.size w1 w') => specBest s A c J hsm (by omega) w' (HJ.out w' h))
  have H3 := Lib.hid (fun w' (h : Below w1.heap.size w1 w') => implPlanRate s A c J hsm (by omega) w' (HJ.out w' h))
  have H8 := Lib.hid (fun (AQ : Option Addr) (cQ : Nat) (Q : List Int) (hQ : Q.length ≤ 1048576) w' (h : Below w1.heap.size w1 w') (lo : Nat) (hI : Iv w' lo w'.heap.size AQ Q) => implPlanLoss s A c J AQ cQ Q hsm (by omega) hQ w' (HJ.out w' h) (lo := lo) hI)
  obtain ⟨V, hV⟩ : ∃ V, V = planV s.data.toList J := ⟨_, rfl⟩
  have HV := Lib.hid hV
  obtain ⟨n, hn⟩ : ∃ n, n = J.length := ⟨_, rfl⟩
  have Hn := Lib.hid hn
  rw [← hn] at H1 H2
  rw [← hn] at hJ4 hJc H3 H8 ⊢
  clear hn hsm hJ hV
  go_wp2_with fail
  refine (H1.out _ hb).mono ?_
  rintro e w2 ⟨AR, cR, cR0, R, ok, rfl, hR, hO, hb2⟩
  replace hb := hb.trans (hb2.mono hb.size)
  clear hb2
  replace hR := Lib.hid hR
  go_wp2_with fail
  refine (H2.out _ hb).mono ?_
  rintro e w3 ⟨AF, cF, F, ok2, rfl, hF, hO2, hb3⟩
  obtain ⟨rfl, rfl⟩ := pbR_one _ _ _ _ _ _ hR.out hF
  have hRl : R.length ≤ 1048576 := pbR_len (by rw [← Hn.out]; omega) hF
  replace hO := hO.below hb3
  replace hb := hb.trans (hb3.mono hb.size)
  clear hF hb3
  have hok : Hid (ok = V) := by show _ = _; rw [hR.out.1, HV.out]
  cases ok with
  | false =>
    go_wp2_with fail
    refine (sameInts_same _ _ _ _ _ _ _ _ R hRl _ hO.iv hO2.iv).mono ?_
    rintro e w4 ⟨rfl, hb4⟩
    replace hO := hO.below hb4
    replace hO2 := hO2.below hb4
    replace hb := hb.trans (hb4.mono hb.size)
    clear hb4
    go_wp2_with fail
    refine (sameInts_same _ _ _ _ _ _ _ _ R hRl _ hO.iv hO2.iv).mono ?_
    rintro e w5 ⟨rfl, hb5⟩
    replace hb := hb.trans (hb5.mono hb.size)
    go_wp2_with fail
    go_ret
    exact ⟨rfl, hbw.trans (hb.mono hbw.size)⟩
  | true =>
    have hpv : planV s.data.toList J = true := by rw [← HV.out, ← hok.out]
    have hin := rateV_in hpv
    have hlen := rateV_length J
    obtain ⟨b1, b2, b3⟩ := bestP_least hpv
    have hbl := (best_ok hpv).2
    have hXR : R = bestP s.data.toList J := by rw [hR.out.2, if_pos hpv]; rfl
    have hle := (b3 _ hin).1
    have hrR : Hid (∀ xs ok, rateR s.data.toList J xs ok → ok = true ∧ xs = rateV J) := fun xs ok h => ⟨by rw [h.2, hpv], by rw [h.1, if_pos hpv]⟩
    have H8P := fun AQ cQ hQ w' h lo hI => H8.out AQ cQ (rateV J) hQ w' h lo hI
    have H8B := fun AQ cQ hQ w' h lo hI => H8.out AQ cQ (bestP s.data.toList J) hQ w' h lo hI
    rw [planLossV_yes hin, hlen] at H8P
    rw [planLossV_yes b1, hbl] at H8B
    have hTwo := fun k hk => best_two hpv k hk
    obtain ⟨l1, hl1⟩ : ∃ d, d = lossV s.data.toList J (rateV J) := ⟨_, rfl⟩
    obtain ⟨l2, hl2⟩ : ∃ d, d = lossV s.data.toList J (bestP s.data.toList J) := ⟨_, rfl⟩
    rw [← hl1] at H8P hle
    rw [← hl2] at H8B hle b2 hTwo
    rw [← hXR] at hTwo H8B hbl
    have hRn : R.length = n := by rw [hbl, Hn.out]
    rw [← Hn.out] at H8P H8B hTwo hbl hlen
    have HTwo := Lib.hid hTwo
    have HRn := Lib.hid hRn
    have HRl := Lib.hid hlen
    replace H8P := Lib.hid H8P
    replace H8B := Lib.hid H8B
    have hsame := Lib.hid (sameInts_same AR AF cR cF _ _ _ _ R hRl w3 hO.iv hO2.iv)
    have hspot : Hid (0 < n → ∃ g, AR = some ⟨g, 0, none⟩) := fun h => by
      obtain ⟨g, hg, _⟩ := hO.some (by rw [hRn]; exact h)
      exact ⟨g, hg⟩
    rw [hRn] at hsame hO ⊢
    clear hpv hin hlen b1 b3 hbl hXR hl1 hl2 hTwo hRn hO2 hRl
    go_wp2_with fail
    refine hsame.out.mono ?_
    rintro e w4 ⟨rfl, hb4⟩
    have hO4 := hO.below hb4
    replace hb := hb.trans (hb4.mono hb.size)
    clear hb4 hO hsame
    go_wp2_with fail
    refine (H8B.out _ _ (by have := HRn.out; omega) _ hb _ hO4.iv).mono ?_
    rintro e w5 ⟨r5, rfl, rfl, hb5⟩
    replace hO4 := hO4.below hb5
    replace hb := hb.trans (hb5.mono hb.size)
    clear hb5
    have HRO : Hid (∀ w', Below w5.heap.size w5 w' → Own w' w1.heap.size (.slice AR n cR0) R) := fun w' h => hO4.below h
    go_wp2_with fail
    go_loopw [10, 11, 12] (fun i _ _ wr => ∃ k : Nat, (k + 1 ≤ n ∨ k = 0) ∧ i = .int .i64 ((k : Int) + 1) ∧ Below w5.heap.size w5 wr) (fun i _ _ _ => n - (intOf i).toNat)
    case atStart => exact ⟨0, by omega, rfl, Below.refl _ _⟩
    case round =>
      obtain ⟨k, hk, rfl, hbel⟩ := hrel
      have hbb := hb.trans (hbel.mono hb.size)
      by_cases hlt : k + 1 < n
      · obtain ⟨x, y, Y, hx, hy, hY, hYl, hYk, hYin, hno, hno2⟩ := HTwo.out k (by omega)
        obtain ⟨g, rfl⟩ := hspot.out (by omega)
        have hRO := HRO.out _ hbel
        have Ho1 := Lib.hid (Own.lit0 wr wr.heap.size (Nat.le_refl _))
        have Hdc : Hid (∀ i x, R[i]? = some x → (wr.alloc (Obj.cells #[] 3)).cell? ((⟨g, 0, none⟩ : Addr).add i) = some (.int .i64 x)) := fun i x h => by
          rw [Addr.add_lit, Nat.zero_add]
          exact Own.cell (hRO.alloc _) h
        have H8Y := fun AQ cQ hQ w' h lo hI => H8.out AQ cQ Y hQ w' h lo hI
        rw [planLossV_yes hYin, hYl] at H8Y
        obtain ⟨ly, hly⟩ : ∃ d, d = lossV s.data.toList J Y := ⟨_, rfl⟩
        rw [← hly] at H8Y hno hno2
        replace H8Y := Lib.hid H8Y
        have HYl := Lib.hid hYl
        have Hx := Lib.hid hx
        have Hy := Lib.hid hy
        have HY := Lib.hid hY
        have HYk := Lib.hid hYk
        clear hYin hly hx hy hY hYl hYk hRO
        have hgw : Hid (g < wr.heap.size) := by
          obtain ⟨g', e, _, h⟩ := (HRO.out _ hbel).some (by have := HRn.out; omega)
          cases e; exact h
        go_wp2_with (first
          | (refine appK _ rfl _ _ rfl wr.heap.size _ [] rfl Ho1.out ⟨g, 0, none⟩ n cR R rfl HRn.out Hdc.out (by have := HRn.out; simp; omega) (by simp) n (by simpa using HRn.out) ?_; intro A1 c1 W1 ho2 hg2
             have hB1 : Below wr.heap.size wr W1 := Ho1.out.grownBelow hg2 ((Below.refl _ wr).alloc (Nat.le_refl _) _) (Nat.le_refl _) (by simp)
             rw [List.nil_append] at ho2
             obtain ⟨g1, rfl, hg1, -⟩ := ho2.some (by have := HRn.out; omega)
             have hgg : g ≠ g1 := by have := hgw.out; omega
             have hR1 := HRO.out W1 (hbel.trans (hB1.mono hbel.size))
             have e1 := Own.cell hR1 Hx.out
             have f1 := Own.frozen ho2 (k + 1)
             have f3 := Own.frozen ho2 k
             have e2 := (cell_far2 (w := W1) (p := ⟨g1, k + 1, none⟩) (q := ⟨g, k + 1, none⟩) (u := .int .i64 x) hgg).trans (Own.cell hR1 Hy.out)
             have e3 := Own.cell hR1 Hy.out
             have d1 := Own.cell ho2 Hx.out
             have d2 := Own.cell ho2 Hy.out
             have hgg' : g1 ≠ g := fun e => hgg e.symm
             have ho3 := Own.stored ho2 (k + 1) x (by have := HRn.out; omega)
             have f2 := Own.frozen ho3 k
             have d3 := Own.cell ho3 (i := k) (x := x) (by rw [List.getElem?_set_ne (by omega)]; exact Hx.out)
             have ho4 := Lib.hid (Own.stored ho3 k y (by rw [List.length_set]; have := HRn.out; omega))
             have hB4 : Hid (Below wr.heap.size wr ((W1.setCell ⟨g1, k + 1, none⟩ (.int .i64 x)).setCell ⟨g1, k, none⟩ (.int .i64 y))) := (hB1.setCell (p := ⟨g1, k + 1, none⟩) hg1 _).setCell (p := ⟨g1, k, none⟩) hg1 _
             clear ho2 hg2 hR1 ho3))
        have ho5 := ho4.out
        rw [HY.out] at ho5
        have hbY := hbb.trans (hB4.out.mono hbb.size)
        obtain ⟨W4, hW4⟩ : ∃ W4, W4 = ((W1.setCell ⟨g1, k + 1, none⟩ (.int .i64 x)).setCell ⟨g1, k, none⟩ (.int .i64 y)) := ⟨_, rfl⟩
        have hB5 := hB4.out
        rw [← hW4] at ho5 hbY hB5 ⊢
        refine (H8Y.out _ _ (by have := HYl.out; omega) _ hbY _ ho5.iv).mono ?_
        rintro e w6 ⟨r6, rfl, rfl, hb6⟩
        have hbel6 := (hbel.trans (hB5.mono hbel.size)).trans (hb6.mono (Nat.le_trans hbel.size hB5.size))
        have g1c := Own.cell (HRO.out _ hbel6) Hx.out
        have g2c := Own.cell (ho5.below hb6) HYk.out
        clear ho5 hbY hB5 hb6 hbb hbel hW4 hB1 e1 e2 e3 f1 f2 f3 d1 d2 d3 hgg hgg'
        have hd : decide (r6 < r5) = false := decide_eq_false (by omega)
        by_cases heq : r6 = r5
        · have t1 := bT heq
          have hyx := hno2 heq
          clear hno2
          go_wp2_with fail
          go_quiet (fail)
          go_wp2_with fail
          go_roundw
          case rel => exact ⟨k + 1, by omega, by go_num, below_drewN hbel6 _⟩
          case measure => simp [intOf]; omega
        · have t1 := bF heq
          clear hno2
          go_wp2_with fail
          go_quiet (fail)
          go_wp2_with fail
          go_roundw
          case rel => exact ⟨k + 1, by omega, by go_num, below_drewN hbel6 _⟩
          case measure => simp [intOf]; omega
      · have hO6 := HRO.out _ hbel
        have hge : ¬ ((k : Int) + 1 < (n : Int)) := by omega
        clear hk
        go_wp2_with fail
        refine (H3.out _ hbb).mono ?_
        rintro e w6 ⟨AB, cB, XB, ok, rfl, hBR, hOB, hb6⟩
        obtain ⟨rfl, rfl⟩ := hrR.out _ _ hBR
        replace hbb := hbb.trans (hb6.mono hbb.size)
        clear hBR hb6 hO6
        rw [HRl.out] at hOB ⊢
        go_wp2_with fail
        refine (H8P.out _ _ (by have := HRl.out; omega) _ hbb _ hOB.iv).mono ?_
        rintro e w7 ⟨r7, rfl, rfl, hb7⟩
        replace hbb := hbb.trans (hb7.mono hbb.size)
        clear hb7 hOB
        go_wp2_with fail
        go_ret
        exact ⟨by simp, hbw.trans (hbb.mono hbw.size)⟩
end Go.Proofs.Ytglncadfmomamaa
