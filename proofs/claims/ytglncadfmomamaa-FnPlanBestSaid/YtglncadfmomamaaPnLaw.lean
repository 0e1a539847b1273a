/- The law FnPlan, walked. -/
import Derived.Test.YtglncadfmomamaaLex
import Derived.Test.YtglncadfmomamaaLoLaw
namespace Go.Proofs.Ytglncadfmomamaa
set_option linter.unusedVariables false
set_option linter.unusedSimpArgs false
open Go.RowKit
theorem rev_take {xs : List Int} {n : Nat} (hl : xs.length = n) (k : Nat) (hk : k < n) (x : Int) (hx : xs[n - 1 - k]? = some x) : xs.reverse.take k ++ [x] = xs.reverse.take (k + 1) := by
  have h : xs.reverse[k]? = some x := by rw [List.getElem?_reverse (by omega), hl]; exact hx
  rw [List.take_add_one, h]; rfl
set_option maxRecDepth 100000 in
theorem backOf_any (A : Option Addr) (c : Nat) (xs : List Int) (hn : xs.length ≤ 1048576) (w : World) {lo : Nat} (hx : Iv w lo w.heap.size A xs) :
    Calls Try.prog 47 #[.slice A xs.length c] w (Sl1Post (fun ys => ys = xs.reverse) w) := by
  obtain ⟨n, hnl⟩ : ∃ n, n = xs.length := ⟨_, rfl⟩
  have Hn := Lib.hid hnl
  have HX : Hid (∀ w', Below w.heap.size w w' → Iv w' lo w.heap.size A xs) := fun w' h => hx.below h (Nat.le_refl _)
  rw [← hnl] at hn ⊢
  clear hnl hx
  have ho0 : Own (w.alloc (Obj.cells #[] 3)) w.heap.size (.slice (some ⟨w.heap.size, 0, none⟩) 0 0) [] := Own.lit0 w _ (Nat.le_refl _)
  have hb0 : Below w.heap.size w (w.alloc (Obj.cells #[] 3)) := (Below.refl _ w).alloc (Nat.le_refl _) _
  go_enter Try.func47, Try.ntmps47
  go_wp2_with fail
  go_loopw [3, 4] (fun v i wr => ∃ (k : Nat) (A' : Option Addr) (c' : Nat), k ≤ n ∧ i = .int .i64 ((n : Int) - 1 - k) ∧ v = .slice A' k c' ∧ Own wr w.heap.size (.slice A' k c') (xs.reverse.take k) ∧ Below w.heap.size w wr) (fun _ i _ => (intOf i + 1).toNat)
  case atStart => exact ⟨0, _, _, by omega, by go_num, rfl, ho0, hb0⟩
  case round =>
    clear ho0 hb0
    obtain ⟨k, A', c', hk, rfl, rfl, hown, hbel⟩ := hrel
    have hsz := hbel.size
    by_cases hkn : k < n
    · obtain ⟨j, hj⟩ : ∃ j : Nat, j = n - 1 - k := ⟨_, rfl⟩
      have hji : (n : Int) - 1 - k = (j : Int) := by omega
      obtain ⟨b, off, rfl, hlo, hb, hc⟩ := (HX.out _ hbel) (by rw [← Hn.out]; omega)
      obtain ⟨x, hx⟩ : ∃ x, xs[j]? = some x := ⟨xs[j]'(by rw [← Hn.out]; omega), List.getElem?_eq_getElem _⟩
      have hcx := hc j x hx
      have hst := Lib.hid (rev_take Hn.out.symm k hkn x (by rw [← hj]; exact hx))
      have hlen : Hid ((xs.reverse.take k).length = k) := by show _ = _; rw [List.length_take, List.length_reverse, ← Hn.out]; omega
      have hjn : j < n := by omega
      rw [hji]
      have Hj := Lib.hid hj
      clear hj hji hc hx
      go_wp2_with (at_builtin; refine app1 _ rfl _ _ rfl w.heap.size _ _ rfl (Own.alloc hown (Obj.cells #[.int .i64 x] 3)) k hlen.out ⟨wr.heap.size, 0, none⟩ x rfl (alloc1_cell rfl) (by omega) (by simp; omega) ?_; intro A5 c5 w5 hown5 hgr5)
      rw [hst.out] at hown5
      have hb5 : Below w.heap.size w w5 := Own.grownBelow (hown.alloc _) hgr5 (hbel.alloc hsz _) (Nat.le_refl _) (by simp; omega)
      clear hgr5 hown hbel
      go_wp2_with fail
      go_roundw
      case rel => exact ⟨k + 1, A5, c5, by omega, (by have := Hj.out; first | go_num | (congr 1; omega)), rfl, hown5, hb5⟩
      case measure => simp [intOf]
    · obtain rfl : k = n := by omega
      have ht : xs.reverse.take k = xs.reverse := List.take_of_length_le (by rw [List.length_reverse, ← Hn.out]; exact Nat.le_refl _)
      rw [ht] at hown
      have e : (k : Int) - 1 - k = -1 := by omega
      rw [e]
      clear ht
      go_wp2_with fail
      go_ret
      exact Sl1Post.mk rfl hown hbel
theorem planIn_rev {l : List UInt8} {J : List Jb} {P : List Int} (h : planInV l J P = true) : planInV l J P.reverse = true := by
  obtain ⟨_, _, _, _, hlen, hperm⟩ := planIn_fit h
  have hp := permB_spec hperm
  have hv : planV l J = true := by unfold planInV at h; simp only [Bool.and_eq_true] at h; exact h.1
  exact planIn_any' hv ⟨fun x hx => by have := hp.1 x (List.mem_reverse.1 hx); rw [hlen] at this; exact this, List.Nodup.perm hp.2 (List.reverse_perm P).symm⟩ (by rw [List.length_reverse, hlen])
theorem planIn_jobs {l : List UInt8} {J : List Jb} {P : List Int} (h : planInV l J P = true) : planV l J = true ∧ daysV J = jDays J := by
  have hv : planV l J = true := by unfold planInV at h; simp only [Bool.and_eq_true] at h; exact h.1
  have hj : jobsOk J = true := by
    unfold planV planOk at hv
    simp only [Bool.and_eq_true] at hv
    exact hv.2.1
  exact ⟨hv, by rw [daysV, if_pos hj]⟩
set_option maxHeartbeats 2000000 in
set_option maxRecDepth 100000 in
theorem law_Plan (a0 : Option Addr) (len0 cap0 : Nat) (z0 : List Int) (w : World) (w0 : ArgB w a0 len0 cap0 z0) :
    Calls Try.prog 14 #[.slice a0 len0 cap0] w fun e w' => e = .returned (.bool true) ∧ Below w.heap.size w w' := by
  obtain ⟨hl0, hm0, hby0⟩ := w0.byt
  have hm0' := hm0
  unfold maxLen at hm0'
  by_cases h0 : 1048576 < len0
  · go_enter Try.func14, Try.ntmps14
    go_wp2_with fail
    go_ret
    exact ⟨rfl, Below.refl _ _⟩
  have hdr := Lib.hid (drawPlanValid a0 len0 cap0 hl0 hm0 _ hby0)
  go_enter Try.func14, Try.ntmps14
  go_wp2_with fail
  refine hdr.out.mono ?_
  rintro e w1 ⟨s, A, c, J, A2, c2, P, rfl, hs, hJ4, hP4, ⟨hPc, hcm⟩, hJ, hP, hbw⟩
  clear hdr hby0 hm0
  have hsm : s.size ≤ maxLen := by unfold maxLen; omega
  have HJ : Hid (∀ w', Below w1.heap.size w1 w' → Jbs w' w'.heap.size A J) := fun w' h => (hJ.below h).more h.size
  have HP : Hid (∀ w', Below w1.heap.size w1 w' → Iv w' 0 w'.heap.size A2 P) := fun w' h => (hP.below h (Nat.le_refl _)).more (Nat.le_refl _) h.size
  have hb := Below.refl w1.heap.size w1
  have H1 := Lib.hid (fun w' (h : Below w1.heap.size w1 w') => implPlan s A A2 c c2 0 J P hsm (by omega) (by unfold maxLen; omega) w' (HJ.out w' h) (HP.out w' h))
  have H2 := Lib.hid (fun w' (h : Below w1.heap.size w1 w') => specPlan s A A2 c c2 0 J P hsm (by omega) (by omega) hPc w' (HJ.out w' h) (HP.out w' h))
  have H3 := Lib.hid (fun w' (h : Below w1.heap.size w1 w') => implBest s A c J hsm (by omega) w' (HJ.out w' h))
  have H4 := Lib.hid (fun w' (h : Below w1.heap.size w1 w') => backOf_any A2 c2 P (by omega) w' (HP.out w' h))
  have H5 := Lib.hid (fun (AQ : Option Addr) (cQ : Nat) (Q : List Int) (hQ : Q.length ≤ 1048576) w' (h : Below w1.heap.size w1 w') (lo : Nat) (hI : Iv w' lo w'.heap.size AQ Q) => implPlan s A AQ c cQ lo J Q hsm (by omega) (by unfold maxLen; omega) w' (HJ.out w' h) hI)
  have H6 := Lib.hid (fun x w' => implOpen s hsm x w')
  have H7 := Lib.hid (fun w' (h : Below w1.heap.size w1 w') => implJobsDays A c J (by omega) w' (HJ.out w' h))
  have H8 := Lib.hid (fun (AQ : Option Addr) (cQ : Nat) (Q : List Int) (hQ : Q.length ≤ 1048576) w' (h : Below w1.heap.size w1 w') (lo : Nat) (hI : Iv w' lo w'.heap.size AQ Q) => implPlanLoss s A c J AQ cQ Q hsm (by omega) hQ w' (HJ.out w' h) (lo := lo) hI)
  obtain ⟨V, hV⟩ : ∃ V, V = planInV s.data.toList J P := ⟨_, rfl⟩
  have HV := Lib.hid hV
  obtain ⟨n, hn⟩ : ∃ n, n = J.length := ⟨_, rfl⟩
  have Hn := Lib.hid hn
  obtain ⟨np, hnp⟩ : ∃ n, n = P.length := ⟨_, rfl⟩
  have Hnp := Lib.hid hnp
  rw [← hnp, ← hn, ← hV] at H1 H2
  rw [← hn] at hJ4 H3 H5 H7 H8 ⊢
  rw [← hnp] at hP4 H4 ⊢
  clear hn hnp hsm hcm hPc hJ hP hV
  go_wp2_with fail
  refine (H1.out _ hb).mono ?_
  rintro e w2 ⟨rfl, hb2⟩
  replace hb := hb.trans (hb2.mono hb.size)
  clear hb2
  go_wp2_with fail
  refine (H2.out _ hb).mono ?_
  rintro e w3 ⟨rfl, hb3⟩
  replace hb := hb.trans (hb3.mono hb.size)
  clear hb3
  cases V with
  | false =>
    go_wp2_with fail
    go_ret
    exact ⟨rfl, hbw.trans (hb.mono hbw.size)⟩
  | true =>
    have hin := HV.out.symm
    obtain ⟨hpv, hdj⟩ := planIn_jobs hin
    obtain ⟨hfv, hl30, hjf, hpf, hlen, hperm⟩ := planIn_fit hin
    obtain ⟨b1, b2, b3⟩ := bestP_least hpv
    have hbl := (planIn_fit b1).2.2.2.2.1
    have hd := plan_work hin
    have hlt := (b3 P hin).1
    have hfo := fcOpen_on (l := s.data.toList) (d := s.data.toList.length) hfv (Nat.le_refl _)
    have hsz : s.data.toList.length = s.size := by simp
    rw [hsz] at hfo
    have hR : Hid (∀ xs ok, bestR s.data.toList J xs ok → ok = true ∧ xs = bestP s.data.toList J) := fun xs ok h => ⟨by rw [h.1, hpv], by rw [h.2, if_pos hpv]; rfl⟩
    have H6' := H6.out (s.size : Int)
    rw [hfo] at H6'
    have hrev := planIn_rev hin
    have H5' := fun AQ cQ hQ w' h lo hI => H5.out AQ cQ P.reverse hQ w' h lo hI
    rw [hrev, List.length_reverse, ← Hnp.out] at H5'
    have H8P := fun AQ cQ hQ w' h lo hI => H8.out AQ cQ P hQ w' h lo hI
    have H8B := fun AQ cQ hQ w' h lo hI => H8.out AQ cQ (bestP s.data.toList J) hQ w' h lo hI
    rw [planLossV_yes hin, ← Hnp.out] at H8P
    rw [planLossV_yes b1, hbl, ← Hn.out] at H8B
    rw [hdj] at H7
    have hda := hd.2.1
    rw [hsz] at hda
    obtain ⟨dv, hdv⟩ : ∃ d, d = jDays J := ⟨_, rfl⟩
    obtain ⟨fa, hfa⟩ : ∃ d, d = fcAhead s.data.toList s.size := ⟨_, rfl⟩
    obtain ⟨l1, hl1⟩ : ∃ d, d = lossV s.data.toList J P := ⟨_, rfl⟩
    obtain ⟨l2, hl2⟩ : ∃ d, d = lossV s.data.toList J (bestP s.data.toList J) := ⟨_, rfl⟩
    rw [← hdv] at H7 hda
    rw [← hfa] at H6' hda
    rw [← hl1] at H8P hlt
    rw [← hl2] at H8B hlt
    have Hb := Lib.hid hbl
    rw [← Hn.out] at Hb
    replace H6' := Lib.hid H6'
    replace H5' := Lib.hid H5'
    replace H8P := Lib.hid H8P
    replace H8B := Lib.hid H8B
    clear hin hpv hdj hfv hl30 hjf hpf hlen hperm b1 b2 b3 hbl hd hfo hsz hrev hdv hfa hl1 hl2
    go_wp2_with fail
    refine (H3.out _ hb).mono ?_
    rintro e w4 ⟨AB, cB, cB0, XB, ok, rfl, hBR, hOB, hb4⟩
    obtain ⟨rfl, rfl⟩ := hR.out _ _ hBR
    replace hb := hb.trans (hb4.mono hb.size)
    clear hBR hb4
    rw [Hb.out] at hOB ⊢
    go_wp2_with fail
    refine (H4.out _ hb).mono ?_
    rintro e w5 ⟨AR, cR, XR, rfl, rfl, hOR, hb5⟩
    have hOB5 := hOB.below hb5
    replace hb := hb.trans (hb5.mono hb.size)
    have hrl : P.reverse.length = np := by rw [List.length_reverse, Hnp.out]
    rw [hrl] at hOR ⊢
    clear hb5 hOB hrl
    go_wp2_with fail
    refine (H5'.out _ _ (by have := Hnp.out; omega) _ hb _ hOR.iv).mono ?_
    rintro e w6 ⟨rfl, hb6⟩
    have hOB6 := hOB5.below hb6
    replace hb := hb.trans (hb6.mono hb.size)
    clear hb6 hOB5 hOR
    go_wp2_with fail
    refine (H6'.out _).mono ?_
    rintro e w7 ⟨rfl, hb7⟩
    have hOB7 := hOB6.below hb7
    replace hb := hb.trans (hb7.mono hb.size)
    clear hb7 hOB6
    go_wp2_with fail
    refine (H7.out _ hb).mono ?_
    rintro e w8 ⟨rfl, hb8⟩
    have hOB8 := hOB7.below hb8
    replace hb := hb.trans (hb8.mono hb.size)
    clear hb8 hOB7
    go_wp2_with fail
    refine (H8P.out _ _ (by have := Hnp.out; omega) _ hb _ (HP.out _ hb)).mono ?_
    rintro e w9 ⟨r9, rfl, rfl, hb9⟩
    have hOB9 := hOB8.below hb9
    replace hb := hb.trans (hb9.mono hb.size)
    clear hb9 hOB8
    go_wp2_with fail
    refine (H8B.out _ _ (by have := Hb.out; omega) _ hb _ hOB9.iv).mono ?_
    rintro e w10 ⟨r10, rfl, rfl, hb10⟩
    replace hb := hb.trans (hb10.mono hb.size)
    clear hb10 hOB9
    go_wp2_with fail
    go_ret
    exact ⟨by simp, hbw.trans (hb.mono hbw.size)⟩
end Go.Proofs.Ytglncadfmomamaa
