/- The law FnPlanRate, walked. -/
import Derived.Test.YtglncadfmomamaaPnLaw
import Derived.Test.YtglncadfmomamaaRs
import Derived.Test.YtglncadfmomamaaHelp
namespace Go.Proofs.Ytglncadfmomamaa
set_option linter.unusedVariables false
set_option linter.unusedSimpArgs false
open Go.RowKit
/-- What the law asks of two neighbours. -/
theorem rate_two {J : List Jb} (h : JobsFit J) (k : Nat) (hk : k + 1 < J.length) : ∃ (p q : Nat) (a b : Jb), (rateV J)[k]? = some (p : Int) ∧ (rateV J)[k + 1]? = some (q : Int) ∧ p < J.length ∧ q < J.length ∧ J[p]? = some a ∧ J[q]? = some b ∧ ¬ a.w * b.d < b.w * a.d ∧ (1 ≤ a.d ∧ a.d ≤ 9 ∧ 1 ≤ a.w ∧ a.w ≤ 9) ∧ (1 ≤ b.d ∧ b.d ≤ 9 ∧ 1 ≤ b.w ∧ b.w ≤ 9) := by
  have hl := rateV_length J
  have hm := (rateV_ok J).1
  have h1 := hm _ (List.getElem_mem (show k < (rateV J).length by omega))
  have h2 := hm _ (List.getElem_mem (show k + 1 < (rateV J).length by omega))
  obtain ⟨p, hp⟩ := Int.eq_ofNat_of_zero_le h1.1
  obtain ⟨q, hq⟩ := Int.eq_ofNat_of_zero_le h2.1
  have hnx := rate_next h k hk
  rw [List.getD, List.getElem?_eq_getElem (by omega), List.getD, List.getElem?_eq_getElem (by omega)] at hnx
  simp only [Option.getD_some] at hnx
  rw [hp, hq] at hnx
  have hat : ∀ q : Nat, q < J.length → J[q]? = some (jAt J (q : Nat)) := fun q hq => by unfold jAt; rw [Int.toNat_natCast, List.getD, List.getElem?_eq_getElem hq]; rfl
  exact ⟨p, q, jAt J (p : Nat), jAt J (q : Nat), by rw [List.getElem?_eq_getElem (by omega), hp], by rw [List.getElem?_eq_getElem (by omega), hq], by omega, by omega, hat p (by omega), hat q (by omega), hnx, h p (by omega), h q (by omega)⟩
set_option maxHeartbeats 4000000 in
set_option maxRecDepth 100000 in
theorem law_PlanRate (a0 : Option Addr) (len0 cap0 : Nat) (z0 : List Int) (w : World) (w0 : ArgB w a0 len0 cap0 z0) :
    Calls Try.prog 5 #[.slice a0 len0 cap0] w fun e w' => e = .returned (.bool true) ∧ Below w.heap.size w w' := by
  obtain ⟨hl0, hm0, hby0⟩ := w0.byt
  have hm0' := hm0
  unfold maxLen at hm0'
  by_cases h0 : 1048576 < len0
  · go_enter Try.func5, Try.ntmps5
    go_wp2_with fail
    go_ret
    exact ⟨rfl, Below.refl _ _⟩
  have hdr := Lib.hid (drawPlanRate a0 len0 cap0 hl0 hm0 _ hby0)
  go_enter Try.func5, Try.ntmps5
  go_wp2_with fail
  refine hdr.out.mono ?_
  rintro e w1 ⟨s, A, c, J, rfl, hs, hJ4, ⟨hJc, hcm⟩, hJ, hbw⟩
  clear hdr hby0 hm0
  have hsm : s.size ≤ maxLen := by unfold maxLen; omega
  have HJ : Hid (∀ w', Below w1.heap.size w1 w' → Jbs w' w'.heap.size A J) := fun w' h => (hJ.below h).more h.size
  have HJ1 : Hid (∀ w', Below w1.heap.size w1 w' → Jbs w' w1.heap.size A J) := fun w' h => hJ.below h
  have hb := Below.refl w1.heap.size w1
  have H1 := Lib.hid (fun w' (h : Below w1.heap.size w1 w') => implPlanRate s A c J hsm (by omega) w' (HJ.out w' h))
  have H2 := Lib.hid (fun w' (h : Below w1.heap.size w1 w') => specPlanRate s A c J hsm (by omega) w' (HJ.out w' h))
  have H3 := Lib.hid (fun w' (h : Below w1.heap.size w1 w') => implBest s A c J hsm (by omega) w' (HJ.out w' h))
  have H5 := Lib.hid (fun (AQ : Option Addr) (cQ : Nat) (Q : List Int) (hQ : Q.length ≤ 1048576) w' (h : Below w1.heap.size w1 w') (lo : Nat) (hI : Iv w' lo w'.heap.size AQ Q) => implPlan s A AQ c cQ lo J Q hsm (by omega) (by unfold maxLen; omega) w' (HJ.out w' h) hI)
  have H6 := Lib.hid (fun x w' => implOpen s hsm x w')
  have H7 := Lib.hid (fun w' (h : Below w1.heap.size w1 w') => implJobsDays A c J (by omega) w' (HJ.out w' h))
  have H8 := Lib.hid (fun (AQ : Option Addr) (cQ : Nat) (Q : List Int) (hQ : Q.length ≤ 1048576) w' (h : Below w1.heap.size w1 w') (lo : Nat) (hI : Iv w' lo w'.heap.size AQ Q) => implPlanLoss s A c J AQ cQ Q hsm (by omega) hQ w' (HJ.out w' h) (lo := lo) hI)
  obtain ⟨V, hV⟩ : ∃ V, V = planV s.data.toList J := ⟨_, rfl⟩
  have HV := Lib.hid hV
  obtain ⟨n, hn⟩ : ∃ n, n = J.length := ⟨_, rfl⟩
  have Hn := Lib.hid hn
  rw [← hn] at H1 H2
  rw [← hn] at hJ4 hJc H3 H5 H7 H8 ⊢
  clear hn hsm hJ hV
  go_wp2_with fail
  refine (H1.out _ hb).mono ?_
  rintro e w2 ⟨AR, cR, R, ok, rfl, hR, hO, hb2⟩
  replace hb := hb.trans (hb2.mono hb.size)
  clear hb2
  replace hR := Lib.hid hR
  go_wp2_with fail
  refine (H2.out _ hb).mono ?_
  rintro e w3 ⟨AF, cF, F, ok2, rfl, hF, hO2, hb3⟩
  obtain ⟨rfl, rfl⟩ := rateR_one _ _ _ _ _ _ hR.out hF
  have hRl : R.length ≤ 1048576 := rateR_len (by rw [← Hn.out]; omega) hF
  replace hO := hO.below hb3
  replace hb := hb.trans (hb3.mono hb.size)
  clear hF hb3
  have hok : Hid (ok = V) := by show _ = _; rw [hR.out.2, HV.out]
  cases ok with
  | false =>
    go_wp2_with fail
    refine (sameInts_same _ _ _ _ _ _ _ _ R hRl _ hO.iv hO2.iv).mono ?_
    rintro e w4 ⟨rfl, hb4⟩
    replace hO := hO.below hb4
    replace hO2 := hO2.below hb4
    replace hb := hb.trans (hb4.mono hb.size)
    clear hb4
    go_wp2_with fail
    refine (sameInts_same _ _ _ _ _ _ _ _ R hRl _ hO.iv hO2.iv).mono ?_
    rintro e w5 ⟨rfl, hb5⟩
    replace hb := hb.trans (hb5.mono hb.size)
    go_wp2_with fail
    go_ret
    exact ⟨rfl, hbw.trans (hb.mono hbw.size)⟩
  | true =>
    have hpv : planV s.data.toList J = true := by rw [← HV.out, ← hok.out]
    have hin := rateV_in hpv
    obtain ⟨-, hdj⟩ := planIn_jobs hin
    obtain ⟨hfv, hl30, hjf, hpf, hlen, hperm⟩ := planIn_fit hin
    obtain ⟨b1, b2, b3⟩ := bestP_least hpv
    have hbl := (planIn_fit b1).2.2.2.2.1
    have hXR : R = rateV J := by rw [hR.out.1, if_pos hpv]
    have hsz : s.data.toList.length = s.size := by simp
    have hds := plan_days hpv
    obtain ⟨m, hm⟩ := Int.eq_ofNat_of_zero_le hds.1
    have hmle : m ≤ s.data.toList.length := by have := fcAhead_le s.data.toList s.data.toList.length; omega
    have hfo := fcOpen_on (l := s.data.toList) (d := m) hfv hmle
    have hbR : Hid (∀ xs ok, bestR s.data.toList J xs ok → ok = true ∧ xs = bestP s.data.toList J) := fun xs ok h => ⟨by rw [h.1, hpv], by rw [h.2, if_pos hpv]; rfl⟩
    have H6' := H6.out (m : Int)
    rw [hfo] at H6'
    have H5' := fun AQ cQ hQ w' h lo hI => H5.out AQ cQ (rateV J) hQ w' h lo hI
    rw [hin, hlen] at H5'
    have H8P := fun AQ cQ hQ w' h lo hI => H8.out AQ cQ (rateV J) hQ w' h lo hI
    have H8B := fun AQ cQ hQ w' h lo hI => H8.out AQ cQ (bestP s.data.toList J) hQ w' h lo hI
    rw [planLossV_yes hin, hlen] at H8P
    rw [planLossV_yes b1, hbl] at H8B
    rw [hdj, hm] at H7
    have hfb : fcAhead s.data.toList m = m → lossV s.data.toList J (rateV J) = lossV s.data.toList J (bestP s.data.toList J) := fun h => fair_best hpv hm h
    have hm30 : m ≤ 30 := by omega
    obtain ⟨fa, hfa⟩ : ∃ d, d = fcAhead s.data.toList m := ⟨_, rfl⟩
    obtain ⟨l1, hl1⟩ : ∃ d, d = lossV s.data.toList J (rateV J) := ⟨_, rfl⟩
    obtain ⟨l2, hl2⟩ : ∃ d, d = lossV s.data.toList J (bestP s.data.toList J) := ⟨_, rfl⟩
    have hTwo := fun k hk => rate_two hjf k hk
    rw [← hXR] at hTwo H5' H8P hl1 hfb
    have hRn : R.length = n := by rw [hXR, hlen, Hn.out]
    rw [← Hn.out] at H5' H8P H8B hTwo hbl
    rw [← hfa] at H6' hfb
    rw [← hl1] at H8P hfb
    rw [← hl2] at H8B hfb
    have HTwo := Lib.hid hTwo
    have Hb := Lib.hid hbl
    have HRn := Lib.hid hRn
    have Hfb := Lib.hid hfb
    replace H6' := Lib.hid H6'
    replace H5' := Lib.hid H5'
    replace H8P := Lib.hid H8P
    replace H8B := Lib.hid H8B
    have hsame := Lib.hid (sameInts_same AR AF cR cF _ _ _ _ R hRl w3 hO.iv hO2.iv)
    rw [hRn] at hsame hO ⊢
    clear hpv hin hdj hfv hl30 hjf hpf hlen hperm b1 b2 b3 hbl hXR hsz hds hm hmle hfo hfa hl1 hl2 hTwo hRn hfb hO2 hRl
    go_wp2_with fail
    refine hsame.out.mono ?_
    rintro e w4 ⟨rfl, hb4⟩
    have hO4 := hO.below hb4
    replace hb := hb.trans (hb4.mono hb.size)
    clear hb4 hO hsame
    have HRI : Hid (∀ w', Below w4.heap.size w4 w' → Iv w' w1.heap.size w4.heap.size AR R) := fun w' h => (hO4.iv).below h (Nat.le_refl _)
    go_wp2_with fail
    go_loopw [9, 10, 11] (fun i _ _ wr => ∃ k : Nat, (k + 1 ≤ n ∨ k = 0) ∧ i = .int .i64 ((k : Int) + 1) ∧ Below w4.heap.size w4 wr) (fun i _ _ _ => n - (intOf i).toNat)
    case atStart => exact ⟨0, by omega, rfl, Below.refl _ _⟩
    case round =>
      obtain ⟨k, hk, rfl, hbel⟩ := hrel
      have hbb := hb.trans (hbel.mono hb.size)
      by_cases hlt : k + 1 < n
      · obtain ⟨p, q, a, b, hp, hq, hpn, hqn, hpa, hqb, hno, fa1, fb1⟩ := HTwo.out k (by omega)
        obtain ⟨bR, oR, rfl, -, hbR2, hcR⟩ := (HRI.out _ hbel) (by rw [HRn.out]; omega)
        obtain ⟨bj, oj, rfl, hbj, hcj⟩ := (HJ1.out _ hbb) (by rw [← Hn.out]; omega)
        have e1 := hcR k _ hp
        have e2 := hcR (k + 1) _ hq
        obtain ⟨a1, a2⟩ := hcj p _ hpa
        obtain ⟨b1, b2⟩ := hcj q _ hqb
        obtain ⟨ad, aw⟩ := a
        obtain ⟨bd, bw⟩ := b
        dsimp only at a1 a2 b1 b2 hno fa1 fb1
        have p1 : IntKind.i64.wrap (aw * bd) = aw * bd := by
          have := Int.mul_le_mul (show aw ≤ 9 by omega) (show bd ≤ 9 by omega) (by omega) (by omega)
          have := Int.mul_nonneg (show 0 ≤ aw by omega) (show 0 ≤ bd by omega)
          exact IntWalk.i64_in _ (by omega)
        have p2 : IntKind.i64.wrap (bw * ad) = bw * ad := by
          have := Int.mul_le_mul (show bw ≤ 9 by omega) (show ad ≤ 9 by omega) (by omega) (by omega)
          have := Int.mul_nonneg (show 0 ≤ bw by omega) (show 0 ≤ ad by omega)
          exact IntWalk.i64_in _ (by omega)
        have hk1 : ((k : Int) + 1).toNat = k + 1 := by omega
        have hAl : Below wr.heap.size wr (wr.alloc (Obj.cells #[.int .i64 ad, .int .i64 aw] 38)) := (Below.refl _ _).alloc (Nat.le_refl _) _
        have hszb := hbel.size
        have hszb2 := hbb.size
        have e2' := (hAl.cell (p := ⟨bR, oR + (k + 1), none⟩) (by show bR < _; omega)).trans e2
        have b1' := (hAl.cell (p := ⟨bj, oj + q * 2, none⟩) (by show bj < _; omega)).trans b1
        have b2' := (hAl.cell (p := ⟨bj, oj + q * 2 + 1, none⟩) (by show bj < _; omega)).trans b2
        have hfin : Below w4.heap.size w4 ((wr.alloc (Obj.cells #[.int .i64 ad, .int .i64 aw] 38)).alloc (Obj.cells #[.int .i64 bd, .int .i64 bw] 38)) := (hbel.alloc hszb _).alloc (by simp; omega) _
        replace hfin := Lib.hid hfin
        clear hcR hcj hp hq hpa hqb fa1 fb1 hAl hszb hszb2 hbel hbb
        go_wp2_with fail
        go_roundw
        case rel => exact ⟨k + 1, by omega, by go_num, hfin.out⟩
        case measure => simp [intOf]; omega
      · have hO6 := hO4.below hbel
        have hge : ¬ ((k : Int) + 1 < (n : Int)) := by omega
        clear hk
        go_wp2_with fail
        refine (H3.out _ hbb).mono ?_
        rintro e w5 ⟨AB, cB, cB0, XB, ok, rfl, hBR, hOB, hb5⟩
        obtain ⟨rfl, rfl⟩ := hbR.out _ _ hBR
        replace hO6 := hO6.below hb5
        replace hbb := hbb.trans (hb5.mono hbb.size)
        clear hBR hb5
        rw [Hb.out] at hOB ⊢
        go_wp2_with fail
        refine (H7.out _ hbb).mono ?_
        rintro e w6 ⟨rfl, hb6⟩
        replace hO6 := hO6.below hb6
        replace hOB := hOB.below hb6
        replace hbb := hbb.trans (hb6.mono hbb.size)
        clear hb6
        go_wp2_with fail
        refine (H6'.out _).mono ?_
        rintro e w7 ⟨rfl, hb7⟩
        replace hO6 := hO6.below hb7
        replace hOB := hOB.below hb7
        replace hbb := hbb.trans (hb7.mono hbb.size)
        clear hb7
        by_cases hfm : fa = m
        · have hll := Hfb.out hfm
          subst hll hfm
          go_wp2_with fail
          refine (H5'.out _ _ (by have := HRn.out; omega) _ hbb _ hO6.iv).mono ?_
          rintro e w8 ⟨rfl, hb8⟩
          replace hO6 := hO6.below hb8
          replace hOB := hOB.below hb8
          replace hbb := hbb.trans (hb8.mono hbb.size)
          clear hb8
          go_wp2_with fail
          refine (H8P.out _ _ (by have := HRn.out; omega) _ hbb _ hO6.iv).mono ?_
          rintro e w9 ⟨r9, rfl, rfl, hb9⟩
          replace hOB := hOB.below hb9
          replace hbb := hbb.trans (hb9.mono hbb.size)
          clear hb9
          go_wp2_with fail
          refine (H8B.out _ _ (by have := Hb.out; omega) _ hbb _ hOB.iv).mono ?_
          rintro e w10 ⟨r10, rfl, rfl, hb10⟩
          replace hbb := hbb.trans (hb10.mono hbb.size)
          clear hb10
          go_wp2_with fail
          go_ret
          exact ⟨by simp, hbw.trans (hbb.mono hbw.size)⟩
        · have t1 := bF (show (fa : Int) ≠ (m : Int) by omega)
          go_wp2_with fail
          refine (H5'.out _ _ (by have := HRn.out; omega) _ hbb _ hO6.iv).mono ?_
          rintro e w8 ⟨rfl, hb8⟩
          replace hbb := hbb.trans (hb8.mono hbb.size)
          go_wp2_with fail
          go_ret
          exact ⟨by simp, hbw.trans (hbb.mono hbw.size)⟩
end Go.Proofs.Ytglncadfmomamaa
