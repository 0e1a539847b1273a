/- PlanEnds and PlanLoss of the reference, walked. -/
import Derived.Test.YtglncadfmomamaaEnds
namespace Go.Proofs.Ytglncadfmomamaa
set_option linter.unusedVariables false
set_option linter.unusedSimpArgs false
open Go.RowKit
set_option maxHeartbeats 2000000 in
set_option maxRecDepth 100000 in
theorem specPlanEnds (s : ByteArray) (A : Option Addr) (c : Nat) (J : List Jb) (AP : Option Addr) (cP : Nat) (P : List Int) (hs : s.size ≤ maxLen) (hJn : J.length ≤ 1048576) (hPn : P.length ≤ 1048576) (w : World) (hJ : Jbs w w.heap.size A J) {lo : Nat} (hP : Iv w lo w.heap.size AP P) (hcP : P.length ≤ cP := by omega) :
    Calls Try.prog 38 #[.string s, .slice A J.length c, .slice AP P.length cP] w (SlPost (endsR s.data.toList J P) w) := by
  have H := Lib.hid (fun w' h1 h2 => specPlan s A AP c cP lo J P hs hJn hPn hcP w' h1 h2)
  cases hv : planInV s.data.toList J P with
  | false =>
    have hR : Hid (endsR s.data.toList J P [] false) := ⟨by rw [hv]; rfl, hv.symm⟩
    rw [hv] at H
    obtain ⟨n, hn⟩ : ∃ n, n = J.length := ⟨_, rfl⟩
    obtain ⟨np, hnp⟩ : ∃ n, n = P.length := ⟨_, rfl⟩
    rw [← hn, ← hnp] at H
    rw [← hn, ← hnp]
    clear hn hnp hv
    go_enter Try.func38, Try.ntmps38
    go_wp2_with fail
    refine (H.out _ hJ hP).mono ?_
    rintro e w1 ⟨rfl, hb⟩
    go_wp2_with fail
    go_ret2
    exact SlPost.mk hR.out (Own.lit0 w1 _ hb.size) (hb.alloc hb.size _)
  | true =>
    have hR : Hid (endsR s.data.toList J P (endsV s.data.toList J P) true) := ⟨by rw [if_pos hv], hv.symm⟩
    obtain ⟨hfv, hl30, hjf, hpf, hlen, hperm⟩ := planIn_fit hv
    have HD : Hid (∀ work w', Calls Try.prog 72 #[.string s, .int .i64 work] w' fun e w'' => e = .returned (.int .i64 (fcEnd s.data.toList work)) ∧ w' = w'') := fun work w' => by
      have := specDay s hs work w'
      rwa [fcDay_end hfv] at this
    rw [hv] at H
    obtain ⟨hn6, hPJ, hwk⟩ := hpf
    have HPJ := Lib.hid hPJ
    have Hw := Lib.hid hwk
    obtain ⟨n, hn⟩ : ∃ n, n = J.length := ⟨_, rfl⟩
    obtain ⟨np, hnp⟩ : ∃ n, n = P.length := ⟨_, rfl⟩
    have Hn := Lib.hid hn
    have Hnp := Lib.hid hnp
    obtain ⟨ls, hls⟩ : ∃ ls, ls = s.data.toList := ⟨_, rfl⟩
    rw [← hls] at HD hR ⊢
    rw [← hn, ← hnp] at H HPJ
    rw [← hnp] at Hw
    rw [← hn] at hlen
    rw [← hnp] at hlen hn6
    rw [← hn, ← hnp]
    have hmk := fun w => mk_row (P := Try.prog) 33 3 (.int .i64 0) 8 Try.underlying33 intInfo rfl (n : Int) n rfl (by omega) (by omega) w
    replace hlen := Lib.hid hlen
    clear hn hnp hv hfv hl30 hjf hPJ hwk hperm hls
    go_enter Try.func38, Try.ntmps38
    go_wp2_with fail
    refine (H.out _ hJ hP).mono ?_
    rintro e w1 ⟨rfl, hb⟩
    go_wp2_with fail
    go_loopw [9, 10] (fun a i wr => ∃ (k : Nat) (x : Int), k ≤ np ∧ i = .int .i64 k ∧ a = .int .i64 x ∧ Hid (x = workTo J P k) ∧ Row wr w1.heap.size 3 (ivs (endsTo ls J P k)) ∧ Below w.heap.size w wr) (fun _ i _ => np - (intOf i).toNat)
    case atStart => exact ⟨0, 0, by omega, rfl, rfl, rfl, Row.newS _ _ _ rfl (by rw [endsTo, ← Hn.out, ← ivs_zero]; exact madeCells_toList' _ _), hb.alloc hb.size _⟩
    case round =>
      obtain ⟨k, x, hk, rfl, rfl, hx, hr, hbel⟩ := hrel
      by_cases hlt : k < np
      · obtain ⟨p, hp⟩ : ∃ p, p = P.getD k 0 := ⟨_, rfl⟩
        obtain ⟨bp, op, rfl, _, hbp, hcp⟩ := (hP.below hbel (Nat.le_refl _)) (by rw [← Hnp.out]; omega)
        have hcx := hcp k p (by rw [hp, List.getD, List.getElem?_eq_getElem (by rw [← Hnp.out]; exact hlt)]; rfl)
        obtain ⟨hp0, hpn⟩ := HPJ.out k hlt
        have hwk := Hw.out k (by omega)
        have hwk1 := Hw.out (k + 1) (by omega)
        rw [workTo] at hwk1
        rw [← hp] at hp0 hpn hwk1
        obtain ⟨q, rfl⟩ := Int.eq_ofNat_of_zero_le hp0
        have hqn : q < n := by omega
        obtain ⟨bj, oj, rfl, hbj, hcj⟩ := (hJ.below hbel) (by rw [← Hn.out]; omega)
        obtain ⟨y, hy⟩ : ∃ y, J[q]? = some y := ⟨J[q]'(by rw [← Hn.out]; exact hqn), List.getElem?_eq_getElem _⟩
        have hjat : jAt J (q : Int) = y := by unfold jAt; rw [Int.toNat_natCast, List.getD, hy]; rfl
        have hd1 := (hcj q y hy).1
        rw [hjat] at hwk1
        have hnext : Hid (x + y.d = workTo J P (k + 1)) := by show _ = _; rw [workTo, hx.out, ← hp, hjat]
        rw [← hx.out] at hwk hwk1
        have hset : Hid (endsTo ls J P (k + 1) = (endsTo ls J P k).set q (fcEnd ls (x + y.d))) := by show _ = _; rw [endsTo, ← hp, ← hnext.out, Int.toNat_natCast]
        have hHE := Lib.hid (HD.out (x + y.d) wr.drew)
        obtain ⟨e', he'⟩ : ∃ e', e' = fcEnd ls (x + y.d) := ⟨_, rfl⟩
        rw [← he'] at hHE hset
        have hEl := endsTo_length ls J P k
        obtain ⟨m, hm⟩ : ∃ m, (endsTo ls J P k)[q]? = some m := ⟨(endsTo ls J P k)[q]'(by rw [hEl, ← Hn.out]; exact hqn), List.getElem?_eq_getElem _⟩
        have e1 := hr.cellI (ivs_get hm)
        have f1 := hr.frozen q
        have hw1 := hb.size
        have hst : Row (wr.drew.setCell ⟨w1.heap.size, q, none⟩ (.int .i64 e')) w1.heap.size 3 (ivs (endsTo ls J P (k + 1))) ∧ Below w.heap.size w (wr.drew.setCell ⟨w1.heap.size, q, none⟩ (.int .i64 e')) ∧ (wr.drew.setCell ⟨w1.heap.size, q, none⟩ (.int .i64 e')).cell? ⟨bp, op + k, none⟩ = some (.int .i64 q) :=
          ⟨by rw [hset.out, ← ivs_set]; exact hr.drew.set q _, (hbel.drew).setCell (p := ⟨w1.heap.size, q, none⟩) hb.size _, by
            show World.cell? _ _ = _
            unfold World.cell?
            rw [Below.heap_setCell _ _ _ _ (by show bp ≠ w1.heap.size; omega)]; exact hcx⟩
        obtain ⟨st1, st2, st3⟩ := hst
        clear hcj hy hjat hp he' hm hEl hx hset hcp
        go_wp2_with fail
        try have hHE' := hHE
        refine wp_region_held_drew (S := fun w' => w'.cell? ⟨bp, op + k, none⟩ = some (.int .i64 q)) (by kernel_rfl) hcx (fun hHeld => ?_)
        refine wpAnyH_take (i := 0) (v := .slice (some ⟨w1.heap.size, 0, none⟩) n n) rfl (by kernel_rfl) (by kernel_rfl) (by kernel_rfl) (fun _ _ _ h => h) (Or.inl ⟨by kernel_rfl, fun w hSw => by (try dsimp only at hSw); go_simp⟩) hHeld ?_
        try simp only [Act.put, List.setIfInBounds_toArray, List.set_cons_zero, List.set_cons_succ]
        refine wpAnyH_take (i := 1) (v := .slice (some ⟨bp, op, none⟩) np cP) rfl (by kernel_rfl) (by kernel_rfl) (by kernel_rfl) (fun _ _ _ h => h) (Or.inl ⟨by kernel_rfl, fun w hSw => by (try dsimp only at hSw); go_simp⟩) hHeld ?_
        try simp only [Act.put, List.setIfInBounds_toArray, List.set_cons_zero, List.set_cons_succ]
        refine wpAnyH_take (i := 2) (v := .int .i64 k) rfl (by kernel_rfl) (by kernel_rfl) (by kernel_rfl) (fun _ _ _ h => h) (Or.inl ⟨by kernel_rfl, fun w hSw => by (try dsimp only at hSw); go_simp⟩) hHeld ?_
        try simp only [Act.put, List.setIfInBounds_toArray, List.set_cons_zero, List.set_cons_succ]
        refine wpAnyH_take (i := 3) (v := .pointer (some ⟨bp, op + k, none⟩)) rfl (by kernel_rfl) (by kernel_rfl) (by kernel_rfl) (fun _ _ _ h => h) (Or.inl ⟨by kernel_rfl, fun w hSw => by (try dsimp only at hSw); go_simp⟩) hHeld ?_
        try simp only [Act.put, List.setIfInBounds_toArray, List.set_cons_zero, List.set_cons_succ]
        refine wpAnyH_take (i := 4) (v := .int .i64 q) rfl (by kernel_rfl) (by kernel_rfl) (by kernel_rfl) (fun _ _ _ h => h) (Or.inl ⟨by kernel_rfl, fun w hSw => by (try dsimp only at hSw); go_simp⟩) hHeld ?_
        try simp only [Act.put, List.setIfInBounds_toArray, List.set_cons_zero, List.set_cons_succ]
        refine wpAnyH_take (i := 5) (v := .string s) rfl (by kernel_rfl) (by kernel_rfl) (by kernel_rfl) (fun _ _ _ h => h) (Or.inl ⟨by kernel_rfl, fun w hSw => by (try dsimp only at hSw); go_simp⟩) hHeld ?_
        try simp only [Act.put, List.setIfInBounds_toArray, List.set_cons_zero, List.set_cons_succ]
        refine wpAnyH_take (i := 6) (v := .int .i64 (x + y.d)) rfl (by kernel_rfl) (by kernel_rfl) (by kernel_rfl) (fun _ _ _ h => h) (Or.inl ⟨by kernel_rfl, fun w hSw => by (try dsimp only at hSw); go_simp⟩) hHeld ?_
        try simp only [Act.put, List.setIfInBounds_toArray, List.set_cons_zero, List.set_cons_succ]
        refine wpAnyH_ready (rs := [7]) (by kernel_rfl) (by simp) ?_
        refine AllReadyH.cons rfl (fun K hK => ?_) AllReadyH.nil
        go_simp
        go_at_call 72
        refine hHE.out.mono ?_
        rintro e w4 ⟨rfl, rfl⟩
        show K _ wr.drew
        refine hK.out _ _ hcx (fun hHeld => ?_)
        clear hK
        try simp only [Act.put, List.setIfInBounds_toArray, List.set_cons_zero, List.set_cons_succ]
        refine wpAnyH_take (i := 8) (v := .pointer (some ⟨w1.heap.size, q, none⟩)) rfl (by kernel_rfl) (by kernel_rfl) (by kernel_rfl) (fun _ _ _ h => h) (Or.inl ⟨by kernel_rfl, fun w hSw => by (try dsimp only at hSw); go_simp⟩) hHeld ?_
        try simp only [Act.put, List.setIfInBounds_toArray, List.set_cons_zero, List.set_cons_succ]
        refine wpAnyH_ready (rs := [9]) (by kernel_rfl) (by simp) ?_
        refine AllReadyH.cons rfl (fun K hK => ?_) AllReadyH.nil
        go_simp
        refine hK.out _ _ st3 (fun hHeld => ?_)
        clear hK
        refine wpAnyH_done (by kernel_rfl) ?_ _
        try simp only [Act.put, List.setIfInBounds_toArray, List.set_cons_zero, List.set_cons_succ]
        go_wp2_with fail
        go_roundw
        case rel => exact ⟨k + 1, x + y.d, by omega, by go_num, by go_num, hnext.out, st1, st2⟩
        case measure => simp [intOf]; omega
      · obtain rfl : k = np := by omega
        have hn1 : (endsTo ls J P k).length = n := by rw [endsTo_length, Hn.out]
        have hE : Hid (endsV ls J P = endsTo ls J P k) := by show _ = _; rw [endsV, ← Hnp.out]
        go_wp2_with fail
        go_ret2
        have ho := hr.own (B := w.heap.size) hb.size (by rw [hn1, ← hlen.out]; unfold maxLen; omega)
        rw [hn1, ← hE.out] at ho
        exact SlPost.mk hR.out ho hbel
theorem endsTo_bd (ls : List UInt8) (J : List Jb) (P : List Int) (hls : ls.length ≤ 30) : ∀ (k q : Nat), -1 ≤ (endsTo ls J P k).getD q 0 ∧ (endsTo ls J P k).getD q 0 ≤ 30
  | 0, q => by
    rw [endsTo, List.getD, List.getElem?_replicate]
    split <;> simp
  | k + 1, q => by
    rw [endsTo]
    by_cases h : (P.getD k 0).toNat = q
    · by_cases h2 : q < (endsTo ls J P k).length
      · rw [← h] at h2 ⊢; rw [getD_set_self _ _ _ h2]; exact fcEnd_bd ls _ hls
      · rw [List.getD, List.getElem?_eq_none (by rw [List.length_set]; omega)]; simp
    · rw [getD_set_ne _ _ _ _ h]; exact endsTo_bd ls J P hls k q
theorem dotTo_bd {J : List Jb} {E : List Int} (hJ : JobsFit J) (hE : ∀ q, -1 ≤ E.getD q 0 ∧ E.getD q 0 ≤ 30) : ∀ i, i ≤ J.length → -270 * (i : Int) ≤ dotTo J E i ∧ dotTo J E i ≤ 270 * i
  | 0, _ => by simp [dotTo]
  | i + 1, h => by
    have ih := dotTo_bd hJ hE i (by omega)
    have hb := hE i
    have hw := hJ i (by omega)
    rw [dotTo]
    generalize (jAt J (i : Nat)).w = x at hw
    generalize E.getD i 0 = y at hb
    have h1 : y * x ≤ 270 := by
      have := Int.mul_le_mul_of_nonneg_right hb.2 (show 0 ≤ x by omega)
      omega
    have h2 : -270 ≤ y * x := by
      have := Int.mul_le_mul_of_nonneg_right hb.1 (show 0 ≤ x by omega)
      omega
    push_cast
    omega
set_option maxHeartbeats 2000000 in
set_option maxRecDepth 100000 in
theorem specPlanLoss (s : ByteArray) (A : Option Addr) (c : Nat) (J : List Jb) (AP : Option Addr) (cP : Nat) (P : List Int) (hs : s.size ≤ maxLen) (hJn : J.length ≤ 1048576) (hPn : P.length ≤ 1048576) (w : World) (hJ : Jbs w w.heap.size A J) {lo : Nat} (hP : Iv w lo w.heap.size AP P) (hcP : P.length ≤ cP := by omega) :
    Calls Try.prog 37 #[.string s, .slice A J.length c, .slice AP P.length cP] w fun e w' => ∃ r, e = .returned (.int .i64 r) ∧ r = planLossV s.data.toList J P ∧ Below w.heap.size w w' := by
  have H := Lib.hid (fun w' h1 h2 => specPlanEnds s A c J AP cP P hs hJn hPn w' h1 (lo := lo) h2 hcP)
  cases hv : planInV s.data.toList J P with
  | false =>
    rw [planLossV_no hv]
    have Hv := Lib.hid hv
    obtain ⟨n, hn⟩ : ∃ n, n = J.length := ⟨_, rfl⟩
    obtain ⟨np, hnp⟩ : ∃ n, n = P.length := ⟨_, rfl⟩
    rw [← hn, ← hnp] at H
    rw [← hn, ← hnp]
    clear hn hnp hv
    go_enter Try.func37, Try.ntmps37
    go_wp2_with fail
    refine (H.out _ hJ hP).mono ?_
    rintro e w1 ⟨AE, cE, E, ok, rfl, hE, hO, hb⟩
    obtain rfl : ok = false := hE.2.trans Hv.out
    replace hE := Lib.hid hE
    go_wp2_with fail
    go_ret
    exact ⟨_, rfl, rfl, hb⟩
  | true =>
    rw [planLossV_yes hv]
    obtain ⟨hfv, hl30, hjf, hpf, hlen, hperm⟩ := planIn_fit hv
    have HV : Hid (lossV s.data.toList J P = dotTo J (endsV s.data.toList J P) J.length) := (dot_ends hperm hlen P.length (Nat.le_refl _)).symm
    have HE : Hid (∀ E ok, endsR s.data.toList J P E ok → ok = true ∧ E = endsV s.data.toList J P ∧ E.length = J.length ∧ J.length ≤ 6 ∧ ∀ q, -1 ≤ E.getD q 0 ∧ E.getD q 0 ≤ 30) := fun E ok h => by
      obtain ⟨h1, h2⟩ := h
      rw [if_pos hv] at h1
      exact ⟨h2.trans hv, h1, by rw [h1, endsV, endsTo_length], by rw [← hlen]; exact hpf.1, fun q => by rw [h1]; exact endsTo_bd _ _ _ hl30 _ _⟩
    have Hjf := Lib.hid hjf
    obtain ⟨n, hn⟩ : ∃ n, n = J.length := ⟨_, rfl⟩
    obtain ⟨np, hnp⟩ : ∃ n, n = P.length := ⟨_, rfl⟩
    have Hn := Lib.hid hn
    rw [← hn, ← hnp] at H
    rw [← hn] at HV HE
    rw [← hn, ← hnp]
    clear hn hnp hv hfv hl30 hjf hpf hlen hperm
    go_enter Try.func37, Try.ntmps37
    go_wp2_with fail
    refine (H.out _ hJ hP).mono ?_
    rintro e w1 ⟨AE, cE, E, ok, rfl, hE, hO, hb⟩
    obtain ⟨rfl, hEe, hEl, hn6, hbd⟩ := HE.out E ok hE
    clear hE
    replace hEe := Lib.hid hEe
    have Hbd := Lib.hid hbd
    have hdot := Lib.hid (dotTo_bd Hjf.out hbd)
    have HEl := Lib.hid hEl
    rw [hEl]
    rw [hEl] at hO
    have hOi := hO.iv
    clear hbd hEl HE
    go_wp2_with fail
    go_loopw [9, 10] (fun a i wr => ∃ (k d : Nat), k ≤ n ∧ i = .int .i64 k ∧ a = .int .i64 (dotTo J E k) ∧ wr = w1.drewN d) (fun _ i _ => n - (intOf i).toNat)
    case atStart => exact ⟨0, 0, by omega, rfl, rfl, rfl⟩
    case round =>
      obtain ⟨k, d, hk, rfl, rfl, hwd⟩ := hrel
      by_cases hlt : k < n
      · have hJ1 : Jbs wr w.heap.size A J := by rw [hwd]; exact hJ.below (below_drewN hb _)
        have hO1 : Iv wr w.heap.size w1.heap.size AE E := by rw [hwd]; exact hOi
        obtain ⟨bj, oj, rfl, hbj, hcj⟩ := hJ1 (by rw [← Hn.out]; omega)
        obtain ⟨be, oe, rfl, _, hbe, hce⟩ := hO1 (by rw [HEl.out]; omega)
        obtain ⟨y, hy⟩ : ∃ y, J[k]? = some y := ⟨J[k]'(by rw [← Hn.out]; exact hlt), List.getElem?_eq_getElem _⟩
        obtain ⟨x, hx⟩ : ∃ x, E[k]? = some x := ⟨E[k]'(by rw [HEl.out]; exact hlt), List.getElem?_eq_getElem _⟩
        have hjat : jAt J (k : Int) = y := by unfold jAt; rw [Int.toNat_natCast, List.getD, hy]; rfl
        have hd1 := (hcj k y hy).2
        have hd2 := hce k x hx
        have hb0 := hdot.out k (by rw [← Hn.out]; omega)
        have hb1 := hdot.out (k + 1) (by rw [← Hn.out]; omega)
        have hnext : Hid (dotTo J E (k + 1) = dotTo J E k + x * y.w) := by
          show _ = _
          rw [dotTo, hjat, List.getD, hx]; rfl
        have hxb := Hbd.out k
        rw [List.getD, hx] at hxb
        have hyb := Hjf.out k (by rw [← Hn.out]; exact hlt)
        rw [hjat] at hyb
        have hxb1 : -1 ≤ x ∧ x ≤ 30 := hxb
        rw [hnext.out] at hb1
        obtain ⟨S, hS⟩ : ∃ S, S = dotTo J E k := ⟨_, rfl⟩
        rw [← hS] at hb0 hb1 hnext ⊢
        obtain ⟨yw, hyw⟩ : ∃ v, v = y.w := ⟨_, rfl⟩
        rw [← hyw] at hb1 hnext hyb hd1
        have hm1 : x * yw ≤ 270 := by
          have := Int.mul_le_mul_of_nonneg_right hxb1.2 (show 0 ≤ yw by omega)
          omega
        have hm2 : -270 ≤ x * yw := by
          have := Int.mul_le_mul_of_nonneg_right hxb1.1 (show 0 ≤ yw by omega)
          omega
        have hw1 : IntKind.i64.wrap (x * yw) = x * yw := IntWalk.i64_in _ (by omega)
        have hw2 : IntKind.i64.wrap (S + x * yw) = S + x * yw := IntWalk.i64_in _ (by omega)
        replace hwd := Lib.hid hwd
        clear hcj hce hy hx hjat hxb hyb hxb1 hb0 hb1 hm1 hm2 hyw hS
        go_wp2_with fail
        go_quiet (fail)
        go_wp2_with fail
        go_roundw
        case rel => exact ⟨k + 1, _, by omega, by go_num, by rw [hnext.out], by rw [hwd.out, World.drewN_drewN]⟩
        case measure => simp [intOf]; omega
      · obtain rfl : k = n := by omega
        go_wp2_with fail
        go_ret
        exact ⟨_, rfl, by rw [HV.out, ← hEe.out], below_drewN hb _⟩
theorem specPlanEndsP (s : ByteArray) (A : Option Addr) (c : Nat) (J : List Jb) (AP : Option Addr) (cP : Nat) (P : List Int) (hs : s.size ≤ maxLen) (hJn : J.length ≤ 1048576) (hPn : P.length ≤ 1048576) (w : World) (hJ : Jbs w w.heap.size A J) {lo : Nat} (hP : Iv w lo w.heap.size AP P) (hcP : P.length ≤ cP := by omega) :
    Calls Try.prog 38 #[.string s, .slice A J.length c, .slice AP P.length cP] w (SpPost (endsR s.data.toList J P) w) :=
  (specPlanEnds s A c J AP cP P hs hJn hPn w hJ hP hcP).mono fun _ _ h => h.sp
end Go.Proofs.Ytglncadfmomamaa
