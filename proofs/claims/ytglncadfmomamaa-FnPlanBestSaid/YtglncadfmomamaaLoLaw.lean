/- The law FnLoss, walked. -/
import Derived.Test.YtglncadfmomamaaDrP
import Derived.Test.YtglncadfmomamaaPerm
import Derived.Test.YtglncadfmomamaaEndsS
import Derived.Test.YtglncadfmomamaaEndsI
namespace Go.Proofs.Ytglncadfmomamaa
set_option linter.unusedVariables false
set_option linter.unusedSimpArgs false
open Go.RowKit
theorem lossOn_sum (ls : List UInt8) (J : List Jb) (P : List Int) : ∀ k, lossOn ls J P (List.range k) = sumN (fun k => (jAt J (P.getD k 0)).w * fcEnd ls (workTo J P (k + 1))) k
  | 0 => rfl
  | k + 1 => by rw [List.range_succ, lossOn_snoc, sumN, lossOn_sum]
theorem fcEnd_x {l : List UInt8} {x : Int} (h1 : 1 ≤ x) (h2 : x ≤ fcAhead l l.length) : fcEnd (120 :: l) x = fcEnd l x + 1 ∧ 0 ≤ fcEnd l x := by
  obtain ⟨k, rfl⟩ := Int.eq_ofNat_of_zero_le (show 0 ≤ x by omega)
  obtain ⟨k, rfl⟩ : ∃ j, k = j + 1 := ⟨k - 1, by omega⟩
  have e : fcAhead (120 :: l) (120 :: l).length = fcAhead l l.length := by rw [List.length_cons, fcAhead_cons, if_neg (by decide)]; omega
  rw [fcEnd_on (l := 120 :: l) (by rw [e]; omega), fcEnd_on (l := l) (by omega), fcDayN, if_neg (by decide)]
  omega
theorem sumN_add (f g : Nat → Int) : ∀ n, sumN (fun i => f i + g i) n = sumN f n + sumN g n
  | 0 => rfl
  | n + 1 => by rw [sumN, sumN, sumN, sumN_add f g n]; omega
theorem workTo_mono {J : List Jb} {P : List Int} (hJ : JobsFit J) (hP : ∀ k, k < P.length → 0 ≤ P.getD k 0 ∧ P.getD k 0 < J.length) : ∀ (d k : Nat), k + d ≤ P.length → workTo J P k + d ≤ workTo J P (k + d)
  | 0, k, _ => by simp
  | d + 1, k, h => by
    have ih := workTo_mono hJ hP d k (by omega)
    obtain ⟨h1, h2⟩ := hP (k + d) (by omega)
    obtain ⟨q, hq⟩ := Int.eq_ofNat_of_zero_le h1
    have h3 := hJ q (by omega)
    rw [← Nat.add_assoc, workTo, hq]
    push_cast
    omega
theorem plan_work {l : List UInt8} {J : List Jb} {P : List Int} (h : planInV l J P = true) : workTo J P P.length = jDays J ∧ jDays J ≤ fcAhead l l.length ∧ ∀ k, k < P.length → 1 ≤ workTo J P (k + 1) ∧ workTo J P (k + 1) ≤ fcAhead l l.length := by
  obtain ⟨hfv, hl30, hjf, hpf, hlen, hperm⟩ := planIn_fit h
  have hw := workTo_whole hperm hlen
  have hd : jDays J ≤ fcAhead l l.length := by
    unfold planInV planV planOk at h
    simp only [Bool.and_eq_true, decide_eq_true_eq] at h
    exact h.1.2.2
  refine ⟨hw, hd, fun k hk => ?_⟩
  have h1 := workTo_mono hjf hpf.2.1 (P.length - (k + 1)) (k + 1) (by omega)
  rw [show k + 1 + (P.length - (k + 1)) = P.length by omega, hw] at h1
  have h2 := workTo_mono hjf hpf.2.1 (k + 1) 0 (by omega)
  rw [Nat.zero_add, workTo] at h2
  omega
theorem planInV_x {l : List UInt8} {J : List Jb} {P : List Int} (h : planInV l J P = true) (hl : l.length ≠ 30) : planInV (120 :: l) J P = true := by
  obtain ⟨hfv, hl30, _⟩ := planIn_fit h
  unfold planInV planV planOk at h ⊢
  simp only [Bool.and_eq_true, decide_eq_true_eq] at h ⊢
  obtain ⟨⟨_, h1, h2⟩, h3⟩ := h
  refine ⟨⟨?_, h1, ?_⟩, h3⟩
  · unfold fcValid fcOk at hfv ⊢
    simp only [Bool.and_eq_true, decide_eq_true_eq, List.all_cons, List.length_cons] at hfv ⊢
    exact ⟨⟨by decide, hfv.1⟩, by omega⟩
  · rw [List.length_cons, fcAhead_cons, if_neg (by decide)]; omega
/-- A day of bad weather ahead costs all weights once. -/
theorem loss_x {l : List UInt8} {J : List Jb} {P : List Int} (h : planInV l J P = true) (hl : l.length ≠ 30) : planLossV (120 :: l) J P = planLossV l J P + sumN (fun i => (jAt J (i : Nat)).w) J.length := by
  rw [planLossV_yes h, planLossV_yes (planInV_x h hl)]
  obtain ⟨_, _, _, _, hlen, hperm⟩ := planIn_fit h
  obtain ⟨_, _, hw⟩ := plan_work h
  unfold lossV
  rw [lossOn_sum, lossOn_sum]
  have e : sumN (fun i => (jAt J (i : Nat)).w) J.length = sumN (fun k => (jAt J (P.getD k 0)).w) P.length := by
    rw [← hlen]
    refine Eq.trans (perm_sum hperm (fun i => (jAt J (i : Nat)).w)).symm ?_
    exact sumN_congr _ (fun j hj => by
      have h := (perm_at hperm).1 j hj
      obtain ⟨q, hq⟩ := Int.eq_ofNat_of_zero_le h.1
      show (jAt J ((P.getD j 0).toNat : Nat)).w = _
      rw [hq, Int.toNat_natCast])
  rw [e, ← sumN_add]
  exact sumN_congr _ (fun k hk => by
    obtain ⟨h1, h2⟩ := hw k hk
    rw [(fcEnd_x h1 h2).1, Int.mul_add, Int.mul_one])
theorem planLossV_pos {l : List UInt8} {J : List Jb} {P : List Int} (h : ¬ planLossV l J P < 0) : planInV l J P = true := by
  cases hv : planInV l J P with
  | true => rfl
  | false => rw [planLossV_no hv] at h; omega
theorem x_list (s : ByteArray) : ((⟨#[120]⟩ : ByteArray) ++ s).data.toList = 120 :: s.data.toList := by
  rw [ByteArray.data_append]; simp
def wsum (J : List Jb) (k : Nat) : Int := sumN (fun i => (jAt J (i : Nat)).w) k
set_option maxHeartbeats 2000000 in
set_option maxRecDepth 100000 in
theorem law_Loss (a0 : Option Addr) (len0 cap0 : Nat) (z0 : List Int) (w : World) (w0 : ArgB w a0 len0 cap0 z0) :
    Calls Try.prog 11 #[.slice a0 len0 cap0] w fun e w' => e = .returned (.bool true) ∧ Below w.heap.size w w' := by
  obtain ⟨hl0, hm0, hby0⟩ := w0.byt
  have hm0' := hm0
  unfold maxLen at hm0'
  by_cases h0 : 1048576 < len0
  · go_enter Try.func11, Try.ntmps11
    go_wp2_with fail
    go_ret
    exact ⟨rfl, Below.refl _ _⟩
  have hdr := Lib.hid (drawPlanLoss a0 len0 cap0 hl0 hm0 _ hby0)
  go_enter Try.func11, Try.ntmps11
  go_wp2_with fail
  refine hdr.out.mono ?_
  rintro e w1 ⟨s, A, c, J, A2, c2, P, rfl, hs, hJ4, hP4, ⟨hPc, hcm⟩, hJ, hP, hbw⟩
  clear hdr hby0 hm0
  have hsm : s.size ≤ maxLen := by unfold maxLen; omega
  have HJ : Hid (∀ w', Below w1.heap.size w1 w' → Jbs w' w'.heap.size A J) := fun w' h => (hJ.below h).more h.size
  have HP : Hid (∀ w', Below w1.heap.size w1 w' → Iv w' 0 w'.heap.size A2 P) := fun w' h => (hP.below h (Nat.le_refl _)).more (Nat.le_refl _) h.size
  have hb := Below.refl w1.heap.size w1
  have H1 := Lib.hid (fun w' (h : Below w1.heap.size w1 w') => implPlanLoss s A c J A2 c2 P hsm (by omega) (by omega) w' (HJ.out w' h) (HP.out w' h))
  have H2 := Lib.hid (fun w' (h : Below w1.heap.size w1 w') => specPlanLoss s A c J A2 c2 P hsm (by omega) (by omega) w' (HJ.out w' h) (HP.out w' h) hPc)
  have H3 := Lib.hid (fun w' (h : Below w1.heap.size w1 w') => implPlanEnds s A c J A2 c2 P hsm (by omega) (by omega) w' (HJ.out w' h) (HP.out w' h))
  have hxs : (⟨#[120]⟩ ++ s : ByteArray).size ≤ maxLen := by rw [ByteArray.size_append]; show 1 + s.size ≤ _; unfold maxLen; omega
  have H4 := Lib.hid (fun w' (h : Below w1.heap.size w1 w') => implPlanLoss (⟨#[120]⟩ ++ s) A c J A2 c2 P hxs (by omega) (by omega) w' (HJ.out w' h) (HP.out w' h))
  rw [x_list] at H4
  obtain ⟨V, hV⟩ : ∃ V, V = planLossV s.data.toList J P := ⟨_, rfl⟩
  have HV := Lib.hid hV
  obtain ⟨VX, hVX⟩ : ∃ V, V = planLossV (120 :: s.data.toList) J P := ⟨_, rfl⟩
  have HVX := Lib.hid hVX
  rw [← hV] at H1 H2
  rw [← hVX] at H4
  obtain ⟨n, hn⟩ : ∃ n, n = J.length := ⟨_, rfl⟩
  have Hn := Lib.hid hn
  obtain ⟨np, hnp⟩ : ∃ n, n = P.length := ⟨_, rfl⟩
  have HPc := Lib.hid hPc
  rw [← hn, ← hnp] at H1 H2 H3 H4
  rw [← hn] at hJ4 ⊢
  rw [← hnp] at hP4 ⊢
  clear hV hVX hn hnp hsm hxs hcm hPc hJ hP
  go_wp2_with fail
  refine (H1.out _ hb).mono ?_
  rintro e w2 ⟨r, rfl, rfl, hb2⟩
  replace hb := hb.trans (hb2.mono hb.size)
  clear hb2
  go_wp2_with fail
  refine (H2.out _ hb).mono ?_
  rintro e w3 ⟨r2, rfl, rfl, hb3⟩
  replace hb := hb.trans (hb3.mono hb.size)
  clear hb3
  by_cases hneg : r2 < 0
  · go_wp2_with fail
    go_ret
    exact ⟨rfl, hbw.trans (hb.mono hbw.size)⟩
  have hin : planInV s.data.toList J P = true := planLossV_pos (by rw [← HV.out]; exact hneg)
  obtain ⟨hfv, hl30, hjf, hpf, hlen, hperm⟩ := planIn_fit hin
  have Hin := Lib.hid hin
  have Hjf := Lib.hid hjf
  have HVe : Hid (r2 = dotTo J (endsV s.data.toList J P) n) := by
    show _ = _
    rw [HV.out, planLossV_yes hin, Hn.out]
    exact (dot_ends hperm hlen P.length (Nat.le_refl _)).symm
  have HE : Hid (∀ E ok, endsR s.data.toList J P E ok → ok = true ∧ E = endsV s.data.toList J P ∧ E.length = n ∧ ∀ q, -1 ≤ E.getD q 0 ∧ E.getD q 0 ≤ 30) := fun E ok h => by
    obtain ⟨h1, h2⟩ := h
    rw [if_pos hin] at h1
    exact ⟨h2.trans hin, h1, by rw [h1, endsV, endsTo_length, Hn.out], fun q => by rw [h1]; exact endsTo_bd _ _ _ hl30 _ _⟩
  have HX : Hid (s.size = 30 ∨ VX = r2 + wsum J n) := by
    by_cases h30 : s.size = 30
    · exact .inl h30
    · refine .inr ?_
      rw [HVX.out, HV.out, Hn.out]
      exact loss_x hin (by simpa using h30)
  clear hin hfv hl30 hjf hpf hlen hperm
  go_wp2_with fail
  refine (H3.out _ hb).mono ?_
  rintro e w4 ⟨AE, cE, E, ok, rfl, hE, hO, hb4⟩
  obtain ⟨rfl, hEe, hEl, hbd⟩ := HE.out E ok hE
  replace hb4 := hb.trans (hb4.mono hb.size)
  have HJ4 := Lib.hid (HJ.out _ hb4)
  rw [← hEe] at HVe
  have Hbd := Lib.hid hbd
  have hdot := Lib.hid (dotTo_bd Hjf.out hbd)
  have hws : Hid (∀ k, k ≤ n → 0 ≤ wsum J k ∧ wsum J k ≤ 9 * k) := fun k => by
    induction k with
    | zero => intro _; simp [wsum, sumN]
    | succ k ih =>
      intro hk
      have h1 := ih (by omega)
      have h2 := Hjf.out k (by rw [← Hn.out]; omega)
      have e : wsum J (k + 1) = wsum J k + (jAt J (k : Nat)).w := rfl
      rw [e]; omega
  rw [hEl]
  rw [hEl] at hO
  have HEl := Lib.hid hEl
  have hOi := hO.iv
  clear hbd hEl HE hE hEe hO
  go_wp2_with fail
  go_loopw [10, 11, 12] (fun a b i wr => ∃ (k d : Nat), k ≤ n ∧ i = .int .i64 k ∧ a = .int .i64 (dotTo J E k) ∧ b = .int .i64 (wsum J k) ∧ wr = w4.drewN d) (fun _ _ i _ => n - (intOf i).toNat)
  case atStart => exact ⟨0, 0, by omega, rfl, rfl, rfl, rfl⟩
  case round =>
    obtain ⟨k, d, hk, rfl, rfl, rfl, hwd⟩ := hrel
    by_cases hlt : k < n
    · have hJ1 : Jbs wr w4.heap.size A J := by rw [hwd]; exact HJ4.out.below (below_drewN (Below.refl _ _) _)
      have hO1 : Iv wr w3.heap.size w4.heap.size AE E := by rw [hwd]; exact hOi
      obtain ⟨bj, oj, rfl, hbj, hcj⟩ := hJ1 (by rw [← Hn.out]; omega)
      obtain ⟨be, oe, rfl, _, hbe, hce⟩ := hO1 (by rw [HEl.out]; omega)
      obtain ⟨y, hy⟩ : ∃ y, J[k]? = some y := ⟨J[k]'(by rw [← Hn.out]; exact hlt), List.getElem?_eq_getElem _⟩
      obtain ⟨x, hx⟩ : ∃ x, E[k]? = some x := ⟨E[k]'(by rw [HEl.out]; exact hlt), List.getElem?_eq_getElem _⟩
      have hjat : jAt J (k : Int) = y := by unfold jAt; rw [Int.toNat_natCast, List.getD, hy]; rfl
      have hd1 := (hcj k y hy).2
      have hd2 := hce k x hx
      have hb0 := hdot.out k (by rw [← Hn.out]; omega)
      have hb1 := hdot.out (k + 1) (by rw [← Hn.out]; omega)
      have hw0 := hws.out k (by omega)
      have hnext : Hid (dotTo J E (k + 1) = dotTo J E k + x * y.w) := by
        show _ = _
        rw [dotTo, hjat, List.getD, hx]; rfl
      have hnextw : Hid (wsum J (k + 1) = wsum J k + y.w) := by
        show wsum J k + (jAt J (k : Nat)).w = _
        rw [hjat]
      have hxb := Hbd.out k
      rw [List.getD, hx] at hxb
      have hyb := Hjf.out k (by rw [← Hn.out]; exact hlt)
      rw [hjat] at hyb
      have hxb1 : -1 ≤ x ∧ x ≤ 30 := hxb
      rw [hnext.out] at hb1
      obtain ⟨S, hS⟩ : ∃ S, S = dotTo J E k := ⟨_, rfl⟩
      rw [← hS] at hb0 hb1 hnext ⊢
      obtain ⟨T, hT⟩ : ∃ S, S = wsum J k := ⟨_, rfl⟩
      rw [← hT] at hw0 hnextw ⊢
      obtain ⟨yw, hyw⟩ : ∃ v, v = y.w := ⟨_, rfl⟩
      rw [← hyw] at hb1 hnext hyb hd1 hnextw
      have hm1 : x * yw ≤ 270 := by
        have := Int.mul_le_mul_of_nonneg_right hxb1.2 (show 0 ≤ yw by omega)
        omega
      have hm2 : -270 ≤ x * yw := by
        have := Int.mul_le_mul_of_nonneg_right hxb1.1 (show 0 ≤ yw by omega)
        omega
      have hw1 : IntKind.i64.wrap (x * yw) = x * yw := IntWalk.i64_in _ (by omega)
      have hw2 : IntKind.i64.wrap (S + x * yw) = S + x * yw := IntWalk.i64_in _ (by omega)
      have hw3 : IntKind.i64.wrap (T + yw) = T + yw := IntWalk.i64_in _ (by omega)
      replace hwd := Lib.hid hwd
      clear hcj hce hy hx hjat hxb hyb hxb1 hb0 hb1 hm1 hm2 hyw hS hT
      go_wp2_with fail
      go_quiet (fail)
      go_wp2_with fail
      go_roundw
      case rel => exact ⟨k + 1, _, by omega, by go_num, by rw [hnext.out], by first | rw [hnextw.out] | (rw [hnextw.out]; go_num), by rw [hwd.out, World.drewN_drewN]⟩
      case measure => simp [intOf]; omega
    · obtain rfl : k = n := by omega
      replace hwd := Lib.hid hwd
      have hbr : Below w1.heap.size w1 wr := by rw [hwd.out]; exact below_drewN hb4 _
      have hws1 := hws.out k (Nat.le_refl _)
      have HVe' := HVe
      obtain ⟨S, hS⟩ : ∃ S, S = dotTo J E k := ⟨_, rfl⟩
      rw [← hS] at HVe ⊢
      obtain rfl : r2 = S := HVe.out
      obtain ⟨T, hT⟩ : ∃ S, S = wsum J k := ⟨_, rfl⟩
      rw [← hT] at HX hws1 ⊢
      have hdb := hdot.out k (by rw [← Hn.out]; exact Nat.le_refl _)
      rw [← hS] at hdb
      have hw3 : IntKind.i64.wrap (r2 + T) = r2 + T := IntWalk.i64_in _ (by omega)
      clear hS hT HVe'
      go_wp2_with fail
      refine (H4.out _ hbr).mono ?_
      rintro e w5 ⟨r5, rfl, rfl, hb5⟩
      replace hb5 := hbr.trans (hb5.mono hbr.size)
      rcases HX.out with h30 | hx
      · have t1 := bT (show (s.size : Int) = 30 by omega)
        clear h30
        go_wp2_with fail
        go_ret
        exact ⟨by simp, hbw.trans (hb5.mono hbw.size)⟩
      · subst hx
        go_wp2_with fail
        all_goals
          go_ret
          exact ⟨by simp, hbw.trans (hb5.mono hbw.size)⟩
end Go.Proofs.Ytglncadfmomamaa
