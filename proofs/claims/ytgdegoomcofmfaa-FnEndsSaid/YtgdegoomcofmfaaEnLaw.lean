/- The law FnEnds, walked. -/
import Derived.Test.YtgdegoomcofmfaaLoLaw
import Derived.Test.YtgdegoomcofmfaaHelp
import Derived.Deep.RegionHeld3
namespace Go.Proofs.Ytgdegoomcofmfaa
set_option linter.unusedVariables false
set_option linter.unusedSimpArgs false
open Go.RowKit
theorem ends_at {l : List UInt8} {J : List Jb} {P : List Int} (hpm : permB P = true) (hl : P.length = J.length) : ∀ k, k ≤ P.length → ∀ j, j < k → (endsTo l J P k).getD (P.getD j 0).toNat 0 = fcEnd l (workTo J P (j + 1))
  | 0, _, j, hj => by omega
  | k + 1, hk, j, hj => by
    obtain ⟨h0, hne⟩ := perm_at hpm
    have hk1 := h0 k (by omega)
    rw [endsTo]
    rcases (by omega : j < k ∨ j = k) with h | rfl
    · have hj1 := h0 j (by omega)
      rw [getD_set_ne _ _ _ _ (fun e => hne j k h (by omega) (by omega)), ends_at hpm hl k (by omega) j h]
    · rw [getD_set_self _ _ _ (by rw [endsTo_length]; omega)]
theorem fcEnd_open {l : List UInt8} {x : Int} (hv : fcValid l = true) (h1 : 0 ≤ x) (h2 : x ≤ fcAhead l l.length) : fcOpen l (fcEnd l x) = x ∧ 0 ≤ fcEnd l x := by
  obtain ⟨k, rfl⟩ := Int.eq_ofNat_of_zero_le h1
  rw [fcEnd_on (by omega)]
  have h := fcDayN_spec l k (by omega)
  rw [fcOpen_on hv h.2.1, h.1]
  omega
theorem fcEnd_lt {l : List UInt8} {x y : Int} (h1 : 0 ≤ x) (h : x < y) (h2 : y ≤ fcAhead l l.length) : fcEnd l x < fcEnd l y := by
  obtain ⟨k, rfl⟩ := Int.eq_ofNat_of_zero_le h1
  obtain ⟨m, rfl⟩ := Int.eq_ofNat_of_zero_le (show 0 ≤ y by omega)
  rw [fcEnd_on (by omega), fcEnd_on (by omega)]
  have := fcDayN_lt l k m (by omega) (by omega)
  omega
set_option maxHeartbeats 2000000 in
set_option maxRecDepth 100000 in
theorem law_Ends (a0 : Option Addr) (len0 cap0 : Nat) (z0 : List Int) (w : World) (w0 : ArgB w a0 len0 cap0 z0) :
    Calls Try.prog 12 #[.slice a0 len0 cap0] w fun e w' => e = .returned (.bool true) ∧ Below w.heap.size w w' := by
  obtain ⟨hl0, hm0, hby0⟩ := w0.byt
  have hm0' := hm0
  unfold maxLen at hm0'
  by_cases h0 : 1048576 < len0
  · go_enter Try.func12, Try.ntmps12
    go_wp2_with fail
    go_ret
    exact ⟨rfl, Below.refl _ _⟩
  have hdr := Lib.hid (drawPlanEnds a0 len0 cap0 hl0 hm0 _ hby0)
  go_enter Try.func12, Try.ntmps12
  go_wp2_with fail
  refine hdr.out.mono ?_
  rintro e w1 ⟨s, A, c, J, A2, c2, P, rfl, hs, hJ4, hP4, ⟨hPc, hcm⟩, hJ, hP, hbw⟩
  clear hdr hby0 hm0
  have hsm : s.size ≤ maxLen := by unfold maxLen; omega
  have HJ : Hid (∀ w', Below w1.heap.size w1 w' → Jbs w' w'.heap.size A J) := fun w' h => (hJ.below h).more h.size
  have HJ1 : Hid (∀ w', Below w1.heap.size w1 w' → Jbs w' w1.heap.size A J) := fun w' h => hJ.below h
  have HP : Hid (∀ w', Below w1.heap.size w1 w' → Iv w' 0 w'.heap.size A2 P) := fun w' h => (hP.below h (Nat.le_refl _)).more (Nat.le_refl _) h.size
  have HP1 : Hid (∀ w', Below w1.heap.size w1 w' → Iv w' 0 w1.heap.size A2 P) := fun w' h => hP.below h (Nat.le_refl _)
  have hb := Below.refl w1.heap.size w1
  have H2 := Lib.hid (fun w' (h : Below w1.heap.size w1 w') => specPlanEnds s A c J A2 c2 P hsm (by omega) (by omega) w' (HJ.out w' h) (HP.out w' h) hPc)
  have H3 := Lib.hid (fun w' (h : Below w1.heap.size w1 w') => implPlanEnds s A c J A2 c2 P hsm (by omega) (by omega) w' (HJ.out w' h) (HP.out w' h))
  have H4 := Lib.hid (fun w' (h : Below w1.heap.size w1 w') => implJobsDays A c J (by omega) w' (HJ.out w' h))
  have H5 := Lib.hid (fun x w' => implDay s hsm x w')
  have H6 := Lib.hid (fun x w' => implOpen s hsm x w')
  obtain ⟨n, hn⟩ : ∃ n, n = J.length := ⟨_, rfl⟩
  have Hn := Lib.hid hn
  obtain ⟨np, hnp⟩ : ∃ n, n = P.length := ⟨_, rfl⟩
  have Hnp := Lib.hid hnp
  rw [← hn, ← hnp] at H2 H3
  rw [← hn] at hJ4 H4 ⊢
  rw [← hnp] at hP4 ⊢
  clear hn hnp hsm hcm hPc hJ hP
  go_wp2_with fail
  refine (H3.out _ hb).mono ?_
  rintro e w2 ⟨AE, cE, E, ok, rfl, hE, hO, hb2⟩
  replace hb := hb.trans (hb2.mono hb.size)
  clear hb2
  replace hE := Lib.hid hE
  go_wp2_with fail
  refine (H2.out _ hb).mono ?_
  rintro e w3 ⟨AF, cF, F, ok2, rfl, hF, hO2, hb3⟩
  obtain ⟨rfl, rfl⟩ := endsR_one _ _ _ _ _ _ _ hE.out hF
  have hEl : E.length ≤ 1048576 := endsR_len (by rw [← Hn.out]; omega) hF
  replace hO := hO.below hb3
  replace hb := hb.trans (hb3.mono hb.size)
  clear hF hb3
  cases ok with
  | false =>
    go_wp2_with fail
    refine (sameInts_same _ _ _ _ _ _ _ _ E hEl _ hO.iv hO2.iv).mono ?_
    rintro e w4 ⟨rfl, hb4⟩
    replace hO := hO.below hb4
    replace hO2 := hO2.below hb4
    replace hb := hb.trans (hb4.mono hb.size)
    clear hb4
    go_wp2_with fail
    refine (sameInts_same _ _ _ _ _ _ _ _ E hEl _ hO.iv hO2.iv).mono ?_
    rintro e w5 ⟨rfl, hb5⟩
    replace hb := hb.trans (hb5.mono hb.size)
    go_wp2_with fail
    go_ret
    exact ⟨rfl, hbw.trans (hb.mono hbw.size)⟩
  | true =>
    have hin : planInV s.data.toList J P = true := hE.out.2.symm
    obtain ⟨hfv, hl30, hjf, hpf, hlen, hperm⟩ := planIn_fit hin
    obtain ⟨hww, hwd, hwk⟩ := plan_work hin
    have HX : Hid (E = endsV s.data.toList J P) := by show _ = _; rw [hE.out.1, if_pos hin]
    have HEl : Hid (E.length = n) := by show _ = _; rw [HX.out, endsV, endsTo_length, Hn.out]
    obtain rfl : np = n := by rw [Hn.out, Hnp.out]; exact hlen
    have HPl : Hid (P.length = np) := by show _ = _; rw [Hnp.out]
    have HPJ : Hid (∀ k, k < np → ∃ q : Nat, P.getD k 0 = q ∧ q < np) := fun k hk => by
      obtain ⟨h1, h2⟩ := hpf.2.1 k (by rw [← Hnp.out]; exact hk)
      obtain ⟨q, hq⟩ := Int.eq_ofNat_of_zero_le h1
      exact ⟨q, hq, by rw [Hn.out]; omega⟩
    have HEnd : Hid (∀ k, k < np → E.getD (P.getD k 0).toNat 0 = fcEnd s.data.toList (workTo J P (k + 1))) := fun k hk => by
      rw [HX.out]
      exact ends_at hperm hlen P.length (Nat.le_refl _) k (by rw [← Hnp.out]; exact hk)
    have HW : Hid (∀ k, k < np → fcEnd s.data.toList (workTo J P k) < fcEnd s.data.toList (workTo J P (k + 1)) ∧ fcOpen s.data.toList (fcEnd s.data.toList (workTo J P k)) = workTo J P k ∧ fcOpen s.data.toList (fcEnd s.data.toList (workTo J P (k + 1))) = workTo J P (k + 1) ∧ 0 ≤ workTo J P k ∧ workTo J P (k + 1) ≤ 30 ∧ 0 ≤ fcEnd s.data.toList (workTo J P k) ∧ fcEnd s.data.toList (workTo J P (k + 1)) ≤ 30 ∧ workTo J P k ≤ workTo J P (k + 1)) := fun k hk => by
      have hk' : k < P.length := by rw [← Hnp.out]; exact hk
      obtain ⟨h1, h2⟩ := hwk k hk'
      have h3 := hpf.2.2 k (by omega)
      have h4 := workTo_mono hjf hpf.2.1 1 k (by omega)
      have h5 := fcAhead_le s.data.toList s.data.toList.length
      have h6 := fcEnd_open (l := s.data.toList) hfv h3.1 (by omega)
      have h7 := fcEnd_open (l := s.data.toList) hfv (show 0 ≤ workTo J P (k + 1) by omega) h2
      exact ⟨fcEnd_lt h3.1 (by omega) h2, h6.1, h7.1, h3.1, by omega, h6.2, (fcEnd_bd _ _ hl30).2, by omega⟩
    have HFin : Hid (fcDay s.data.toList (daysV J) = fcEnd s.data.toList (workTo J P np)) := by
      show _ = _
      have hj : jobsOk J = true := by
        unfold planInV planV planOk at hin
        simp only [Bool.and_eq_true] at hin
        exact hin.1.2.1
      rw [fcDay_end hfv, daysV, if_pos hj, Hnp.out, hww]
    have HFz : Hid (fcEnd s.data.toList (workTo J P 0) = 0) := by
      show fcEnd s.data.toList 0 = 0
      have := fcEnd_on (l := s.data.toList) (k := 0) (by omega)
      rw [fcDayN_zero] at this
      exact this
    have HOi : Hid (∀ w', Below w3.heap.size w3 w' → Iv w' w1.heap.size w3.heap.size AE E) := fun w' h => (hO.iv).below h (Nat.le_refl _)
    rw [HEl.out] at hO ⊢
    clear hin hfv hl30 hjf hpf hlen hperm hww hwd hwk hE Hnp
    go_wp2_with fail
    have hsame := Lib.hid (sameInts_same AE AF cE cF _ _ _ _ E hEl w3 (HOi.out w3 (Below.refl _ _)) hO2.iv)
    rw [HEl.out] at hsame
    refine hsame.out.mono ?_
    rintro e w4 ⟨rfl, hb4⟩
    have HOi2 : Hid (∀ w', Below w4.heap.size w4 w' → Iv w' w1.heap.size w3.heap.size AE E) := fun w' h => HOi.out w' (hb4.trans (h.mono hb4.size))
    replace hb := hb.trans (hb4.mono hb.size)
    have hs43 := hb4.size
    clear hb4 hO2 hO hsame HOi
    go_wp2_with fail
    go_loopw [10, 11] (fun a i wr => ∃ (k : Nat), k ≤ np ∧ i = .int .i64 k ∧ a = .int .i64 (fcEnd s.data.toList (workTo J P k)) ∧ Below w4.heap.size w4 wr) (fun _ i _ => np - (intOf i).toNat)
    case atStart => exact ⟨0, by omega, rfl, by rw [HFz.out], Below.refl _ _⟩
    case round =>
      obtain ⟨k, hk, rfl, rfl, hbel⟩ := hrel
      have hbr : Below w1.heap.size w1 wr := hb.trans (hbel.mono hb.size)
      by_cases hlt : k < np
      · obtain ⟨q, hq, hqn⟩ := HPJ.out k hlt
        have hend := HEnd.out k hlt
        rw [hq, Int.toNat_natCast] at hend
        obtain ⟨h1, h2, h3, h4, h5, h6, h7, h8⟩ := HW.out k hlt
        have hws : workTo J P (k + 1) = workTo J P k + (jAt J (q : Int)).d := by rw [workTo, hq]
        obtain ⟨bp, op, rfl, _, hbp, hcp⟩ := (HP1.out _ hbr) (by rw [HPl.out]; omega)
        have hcq := hcp k q (by rw [← hq, List.getD, List.getElem?_eq_getElem (by rw [HPl.out]; exact hlt)]; rfl)
        obtain ⟨bj, oj, rfl, hbj, hcj⟩ := (HJ1.out _ hbr) (by rw [← Hn.out]; omega)
        obtain ⟨y, hy⟩ : ∃ y, J[q]? = some y := ⟨J[q]'(by rw [← Hn.out]; exact hqn), List.getElem?_eq_getElem _⟩
        have hjat : jAt J (q : Int) = y := by unfold jAt; rw [Int.toNat_natCast, List.getD, hy]; rfl
        rw [hjat] at hws
        have hcd := (hcj q y hy).1
        obtain ⟨d, hd⟩ : ∃ d, d = y.d := ⟨_, rfl⟩
        rw [← hd] at hws hcd
        obtain ⟨be, oe, rfl, hbe1, hbe, hce⟩ := (HOi2.out _ hbel) (by rw [HEl.out]; omega)
        obtain ⟨e0, he0⟩ : ∃ e, e = fcEnd s.data.toList (workTo J P k) := ⟨_, rfl⟩
        obtain ⟨e1, he1⟩ : ∃ e, e = fcEnd s.data.toList (workTo J P (k + 1)) := ⟨_, rfl⟩
        have hcE := hce q e1 (by rw [List.getElem?_eq_getElem (by rw [HEl.out]; exact hqn)]; rw [List.getD, List.getElem?_eq_getElem (by rw [HEl.out]; exact hqn)] at hend; rw [he1, ← hend]; rfl)
        have hOe := Lib.hid (fun w' => H6.out e1 w')
        have hOl := Lib.hid (fun w' => H6.out e0 w')
        rw [he1, h3] at hOe
        rw [he0, h2] at hOl
        rw [← he1] at hOe h1 h7
        rw [← he0] at hOl h1 h6 ⊢
        obtain ⟨x0, hx0⟩ : ∃ x, x = workTo J P k := ⟨_, rfl⟩
        obtain ⟨x1, hx1⟩ : ∃ x, x = workTo J P (k + 1) := ⟨_, rfl⟩
        rw [← hx0] at hOl h4 hws h8
        rw [← hx1] at hOe h5 hws h8
        replace he1 : Hid (.int .i64 e1 = Value.int .i64 (fcEnd s.data.toList (workTo J P (k + 1)))) := by show _ = _; rw [he1]
        have hle : ¬ e1 ≤ e0 := by omega
        have hsub : IntKind.i64.wrap (x1 - x0) = d := by rw [hws]; rw [show x0 + d - x0 = d by omega]; exact IntWalk.i64_in _ (by omega)
        have hnd := nF (rfl : d = d)
        have hkp : Hid (∀ w', Below wr.heap.size wr w' → Below w4.heap.size w4 w' ∧ w'.cell? ⟨bp, op + k, none⟩ = some (.int .i64 q) ∧ w'.cell? ⟨bj, oj + q * 2, none⟩ = some (.int .i64 d)) := fun w' h => by
          have hsz := hbr.size
          exact ⟨hbel.trans (h.mono hbel.size), (h.cell (p := ⟨bp, _, none⟩) (show bp < _ by omega)).trans hcq, (h.cell (p := ⟨bj, _, none⟩) (show bj < _ by omega)).trans hcd⟩
        have hkpd : Hid (∀ w', Below wr.drew.heap.size wr.drew w' → Below wr.heap.size wr w') := fun w' h => ⟨h.os, h.tape, h.output, h.size, h.block⟩
        clear h8 hcp hcj hy hjat hd he0 hx0 hx1 h2 h3 hend hce hq hws
        go_wp2_with fail
        refine wp_region_held_drew (S := fun w' => w'.cell? ⟨bp, op + k, none⟩ = some (.int .i64 q) ∧ w'.cell? ⟨bj, oj + q * 2, none⟩ = some (.int .i64 d)) (by kernel_rfl) ⟨hcq, hcd⟩ (fun hHeld => ?_)
        replace hkp : Hid (∀ w', Below wr.drew.heap.size wr.drew w' → Below w4.heap.size w4 w' ∧ w'.cell? ⟨bp, op + k, none⟩ = some (.int .i64 q) ∧ w'.cell? ⟨bj, oj + q * 2, none⟩ = some (.int .i64 d)) := fun w' h => hkp.out w' (hkpd.out w' h)
        refine wpAnyH_take (i := 0) (v := .int .i64 e1) rfl (by kernel_rfl) (by kernel_rfl) (by kernel_rfl) (fun _ _ _ h => h) (Or.inl ⟨by kernel_rfl, fun w hSw => by (try dsimp only at hSw); go_simp⟩) hHeld ?_
        try simp only [Act.put, List.setIfInBounds_toArray, List.set_cons_zero, List.set_cons_succ]
        refine wpAnyH_take (i := 1) (v := .int .i64 e0) rfl (by kernel_rfl) (by kernel_rfl) (by kernel_rfl) (fun _ _ _ h => h) (Or.inl ⟨by kernel_rfl, fun w hSw => by (try dsimp only at hSw); go_simp⟩) hHeld ?_
        try simp only [Act.put, List.setIfInBounds_toArray, List.set_cons_zero, List.set_cons_succ]
        refine wpAnyH_take (i := 2) (v := .bool false) rfl (by kernel_rfl) (by kernel_rfl) (by kernel_rfl) (fun _ _ _ h => h) (Or.inl ⟨by kernel_rfl, fun w hSw => by (try dsimp only at hSw); go_simp⟩) hHeld ?_
        try simp only [Act.put, List.setIfInBounds_toArray, List.set_cons_zero, List.set_cons_succ]
        refine wpAnyH_take (i := 3) (v := .bool false) rfl (by kernel_rfl) (by kernel_rfl) (by kernel_rfl) (fun _ _ _ h => h) (Or.inl ⟨by kernel_rfl, fun w hSw => by (try dsimp only at hSw); go_simp⟩) hHeld ?_
        try simp only [Act.put, List.setIfInBounds_toArray, List.set_cons_zero, List.set_cons_succ]
        refine wpAnyH_take (i := 4) (v := undef) rfl (by kernel_rfl) (by kernel_rfl) (by kernel_rfl) (fun _ _ _ h => h) (Or.inr ⟨by kernel_rfl, rfl⟩) hHeld ?_
        try simp only [Act.put, List.setIfInBounds_toArray, List.set_cons_zero, List.set_cons_succ]
        refine wpAnyH_take (i := 5) (v := undef) rfl (by kernel_rfl) (by kernel_rfl) (by kernel_rfl) (fun _ _ _ h => h) (Or.inr ⟨by kernel_rfl, rfl⟩) hHeld ?_
        try simp only [Act.put, List.setIfInBounds_toArray, List.set_cons_zero, List.set_cons_succ]
        refine wpAnyH_take (i := 6) (v := .bool false) rfl (by kernel_rfl) (by kernel_rfl) (by kernel_rfl) (fun _ _ _ h => h) (Or.inl ⟨by kernel_rfl, fun w hSw => by (try dsimp only at hSw); go_simp⟩) hHeld ?_
        try simp only [Act.put, List.setIfInBounds_toArray, List.set_cons_zero, List.set_cons_succ]
        refine wpAnyH_take (i := 7) (v := .bool false) rfl (by kernel_rfl) (by kernel_rfl) (by kernel_rfl) (fun _ _ _ h => h) (Or.inl ⟨by kernel_rfl, fun w hSw => by (try dsimp only at hSw); go_simp⟩) hHeld ?_
        try simp only [Act.put, List.setIfInBounds_toArray, List.set_cons_zero, List.set_cons_succ]
        refine wpAnyH_take (i := 8) (v := .string s) rfl (by kernel_rfl) (by kernel_rfl) (by kernel_rfl) (fun _ _ _ h => h) (Or.inl ⟨by kernel_rfl, fun w hSw => by (try dsimp only at hSw); go_simp⟩) hHeld ?_
        try simp only [Act.put, List.setIfInBounds_toArray, List.set_cons_zero, List.set_cons_succ]
        refine wpAnyH_take (i := 9) (v := .int .i64 e1) rfl (by kernel_rfl) (by kernel_rfl) (by kernel_rfl) (fun _ _ _ h => h) (Or.inl ⟨by kernel_rfl, fun w hSw => by (try dsimp only at hSw); go_simp⟩) hHeld ?_
        try simp only [Act.put, List.setIfInBounds_toArray, List.set_cons_zero, List.set_cons_succ]
        refine wpAnyH_take (i := 11) (v := .string s) rfl (by kernel_rfl) (by kernel_rfl) (by kernel_rfl) (fun _ _ _ h => h) (Or.inl ⟨by kernel_rfl, fun w hSw => by (try dsimp only at hSw); go_simp⟩) hHeld ?_
        try simp only [Act.put, List.setIfInBounds_toArray, List.set_cons_zero, List.set_cons_succ]
        refine wpAnyH_take (i := 12) (v := .int .i64 e0) rfl (by kernel_rfl) (by kernel_rfl) (by kernel_rfl) (fun _ _ _ h => h) (Or.inl ⟨by kernel_rfl, fun w hSw => by (try dsimp only at hSw); go_simp⟩) hHeld ?_
        try simp only [Act.put, List.setIfInBounds_toArray, List.set_cons_zero, List.set_cons_succ]
        refine wpAnyH_take (i := 15) (v := .slice (some ⟨bj, oj, none⟩) np c) rfl (by kernel_rfl) (by kernel_rfl) (by kernel_rfl) (fun _ _ _ h => h) (Or.inl ⟨by kernel_rfl, fun w hSw => by (try dsimp only at hSw); go_simp⟩) hHeld ?_
        try simp only [Act.put, List.setIfInBounds_toArray, List.set_cons_zero, List.set_cons_succ]
        refine wpAnyH_take (i := 16) (v := .slice (some ⟨bp, op, none⟩) np c2) rfl (by kernel_rfl) (by kernel_rfl) (by kernel_rfl) (fun _ _ _ h => h) (Or.inl ⟨by kernel_rfl, fun w hSw => by (try dsimp only at hSw); go_simp⟩) hHeld ?_
        try simp only [Act.put, List.setIfInBounds_toArray, List.set_cons_zero, List.set_cons_succ]
        refine wpAnyH_take (i := 17) (v := .int .i64 k) rfl (by kernel_rfl) (by kernel_rfl) (by kernel_rfl) (fun _ _ _ h => h) (Or.inl ⟨by kernel_rfl, fun w hSw => by (try dsimp only at hSw); go_simp⟩) hHeld ?_
        try simp only [Act.put, List.setIfInBounds_toArray, List.set_cons_zero, List.set_cons_succ]
        refine wpAnyH_take (i := 18) (v := .pointer (some ⟨bp, op + k, none⟩)) rfl (by kernel_rfl) (by kernel_rfl) (by kernel_rfl) (fun _ _ _ h => h) (Or.inl ⟨by kernel_rfl, fun w hSw => by (try dsimp only at hSw); go_simp⟩) hHeld ?_
        try simp only [Act.put, List.setIfInBounds_toArray, List.set_cons_zero, List.set_cons_succ]
        refine wpAnyH_take (i := 19) (v := .int .i64 q) rfl (by kernel_rfl) (by kernel_rfl) (by kernel_rfl) (fun _ _ _ h => h) (Or.inl ⟨by kernel_rfl, fun w hSw => by (try dsimp only at hSw); go_simp⟩) hHeld ?_
        try simp only [Act.put, List.setIfInBounds_toArray, List.set_cons_zero, List.set_cons_succ]
        refine wpAnyH_take (i := 20) (v := .pointer (some ⟨bj, oj + q * 2, none⟩)) rfl (by kernel_rfl) (by kernel_rfl) (by kernel_rfl) (fun _ _ _ h => h) (Or.inl ⟨by kernel_rfl, fun w hSw => by (try dsimp only at hSw); go_simp⟩) hHeld ?_
        try simp only [Act.put, List.setIfInBounds_toArray, List.set_cons_zero, List.set_cons_succ]
        refine wpAnyH_take (i := 21) (v := .pointer (some ⟨bj, oj + q * 2, none⟩)) rfl (by kernel_rfl) (by kernel_rfl) (by kernel_rfl) (fun _ _ _ h => h) (Or.inl ⟨by kernel_rfl, fun w hSw => by (try dsimp only at hSw); go_simp⟩) hHeld ?_
        try simp only [Act.put, List.setIfInBounds_toArray, List.set_cons_zero, List.set_cons_succ]
        refine wpAnyH_take (i := 22) (v := .int .i64 d) rfl (by kernel_rfl) (by kernel_rfl) (by kernel_rfl) (fun _ _ _ h => h) (Or.inl ⟨by kernel_rfl, fun w hSw => by (try dsimp only at hSw); go_simp⟩) hHeld ?_
        try simp only [Act.put, List.setIfInBounds_toArray, List.set_cons_zero, List.set_cons_succ]
        refine wpAnyH_ready (rs := [10]) (by kernel_rfl) (by simp) ?_
        refine AllReadyH.cons rfl (fun K hK => ?_) (AllReadyH.nil)
        · go_simp
          go_at_call 28
          refine (hOe.out _).mono ?_
          rintro e w5 ⟨rfl, hb5⟩
          have hk5 := hkp.out w5 hb5
          show K _ w5
          refine hK.out _ _ ⟨hk5.2.1, hk5.2.2⟩ (fun hHeld => ?_)
          clear hK
          try simp only [Act.put, List.setIfInBounds_toArray, List.set_cons_zero, List.set_cons_succ]
          refine wpAnyH_ready (rs := [13]) (by kernel_rfl) (by simp) ?_
          refine AllReadyH.cons rfl (fun K hK => ?_) (AllReadyH.nil)
          go_simp
          go_at_call 28
          refine (hOl.out _).mono ?_
          rintro e w6 ⟨rfl, hb6⟩
          have hk6 := hkp.out w6 (hb5.trans (hb6.mono hb5.size))
          show K _ w6
          refine hK.out _ _ ⟨hk6.2.1, hk6.2.2⟩ (fun hHeld => ?_)
          clear hK
          try simp only [Act.put, List.setIfInBounds_toArray, List.set_cons_zero, List.set_cons_succ]
          refine wpAnyH_take (i := 14) (v := .int .i64 d) rfl (by kernel_rfl) (by kernel_rfl) (by kernel_rfl) (fun _ _ _ h => h) (Or.inl ⟨by kernel_rfl, fun w hSw => by (try dsimp only at hSw); go_simp⟩) hHeld ?_
          try simp only [Act.put, List.setIfInBounds_toArray, List.set_cons_zero, List.set_cons_succ]
          refine wpAnyH_take (i := 23) (v := .bool false) rfl (by kernel_rfl) (by kernel_rfl) (by kernel_rfl) (fun _ _ _ h => h) (Or.inl ⟨by kernel_rfl, fun w hSw => by (try dsimp only at hSw); go_simp⟩) hHeld ?_
          try simp only [Act.put, List.setIfInBounds_toArray, List.set_cons_zero, List.set_cons_succ]
          refine wpAnyH_take (i := 24) (v := .bool false) rfl (by kernel_rfl) (by kernel_rfl) (by kernel_rfl) (fun _ _ _ h => h) (Or.inl ⟨by kernel_rfl, fun w hSw => by (try dsimp only at hSw); go_simp⟩) hHeld ?_
          try simp only [Act.put, List.setIfInBounds_toArray, List.set_cons_zero, List.set_cons_succ]
          refine wpAnyH_done (by kernel_rfl) ?_ _
          try simp only [Act.put, List.setIfInBounds_toArray, List.set_cons_zero, List.set_cons_succ]
          have hb6' := hk6.1
          go_wp2_with fail
          go_roundw
          case rel => exact ⟨k + 1, by omega, by go_num, he1.out, hb6'⟩
          case measure => simp [intOf]; omega
      · obtain rfl : k = np := by omega
        have hfin := HFin.out
        obtain ⟨e0, he0⟩ : ∃ e, e = fcEnd s.data.toList (workTo J P k) := ⟨_, rfl⟩
        have hD := H5.out (daysV J)
        rw [hfin, ← he0] at hD
        replace hD := Lib.hid hD
        rw [← he0]
        clear he0 hfin
        go_wp2_with fail
        refine (H4.out _ hbr).mono ?_
        rintro e w5 ⟨rfl, hb5⟩
        replace hb5 := hbr.trans (hb5.mono hbr.size)
        go_wp2_with fail
        refine (hD.out _).mono ?_
        rintro e w6 ⟨rfl, hb6⟩
        replace hb6 := hb5.trans (hb6.mono hb5.size)
        go_wp2_with fail
        go_ret
        exact ⟨by simp, hbw.trans (hb6.mono hbw.size)⟩
end Go.Proofs.Ytgdegoomcofmfaa
