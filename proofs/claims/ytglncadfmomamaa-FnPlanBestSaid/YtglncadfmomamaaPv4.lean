/- Plans, plain and walked: the reference's l6rOk and PlanValid. -/
import Derived.Test.YtglncadfmomamaaPv3
import Derived.Test.YtglncadfmomamaaFcS
namespace Go.Proofs.Ytglncadfmomamaa
set_option linter.unusedVariables false
set_option linter.unusedSimpArgs false
open Go.RowKit
theorem jDays_whole {J : List Jb} (h : jobsOk J = true) : 0 ≤ jDays J ∧ jDays J ≤ 54 := by
  have := jDays_bound h J.length (Nat.le_refl _)
  rw [List.take_length] at this
  have := (jobsOk_n h).1
  omega
theorem planV_day (l : List UInt8) (J : List Jb) (h : jobsOk J = true) : planV l J = decide (0 ≤ fcDay l (daysV J)) := by
  have hb := jDays_whole h
  unfold planV planOk daysV
  rw [h, if_pos rfl, Bool.true_and]
  unfold fcDay
  cases hv : fcValid l with
  | false => simp
  | true =>
    by_cases hd : jDays J ≤ fcAhead l l.length
    · rw [if_pos ⟨rfl, hb.1, hd⟩]; simp [hd]
    · rw [if_neg (fun h => hd h.2.2)]; simp [hd]
theorem planV_no (l : List UInt8) (J : List Jb) (h : jobsOk J = false) : planV l J = false := by
  unfold planV planOk; rw [h]; simp
theorem planInV_ord (l : List UInt8) (J : List Jb) (P : List Int) : planInV l J P = (planV l J && (ordB P && (P.length == J.length))) := by
  unfold planInV ordB
  cases hv : planV l J with
  | false => rfl
  | true =>
    have hj : jobsOk J = true := by
      simp only [planV, planOk, Bool.and_eq_true] at hv
      exact hv.2.1
    have h6 := (jobsOk_n hj).1
    simp only [Bool.true_and]
    by_cases hl : P.length = J.length
    · have h10 : P.length ≤ 10 := by omega
      have e1 : (P.length == J.length) = true := by simpa using hl
      rw [e1, decide_eq_true h10]; simp
    · have e1 : (P.length == J.length) = false := by simpa using hl
      rw [e1]; simp
set_option maxRecDepth 100000 in
theorem specOk (s : ByteArray) (A : Option Addr) (c : Nat) (J : List Jb) (hs : s.size ≤ maxLen) (hJn : J.length ≤ 1048576) (w : World) (hJ : Jbs w w.heap.size A J) :
    Calls Try.prog 61 #[.string s, .slice A J.length c] w fun e w' => e = .returned (.bool (planV s.data.toList J)) ∧ Below w.heap.size w w' := by
  have H1 := Lib.hid (fun w' h => specJobs A c J hJn w' h)
  have H2 := Lib.hid (fun w' h => specJobsDays A c J hJn w' h)
  have H3 := Lib.hid (fun work w' => specDay s hs work w')
  have HV := Lib.hid (planV_day s.data.toList J)
  have HN := Lib.hid (planV_no s.data.toList J)
  obtain ⟨R, hR⟩ : ∃ R, R = planV s.data.toList J := ⟨_, rfl⟩
  obtain ⟨n, hn⟩ : ∃ n, n = J.length := ⟨_, rfl⟩
  obtain ⟨d, hd⟩ : ∃ d, d = daysV J := ⟨_, rfl⟩
  obtain ⟨j, hj⟩ : ∃ d, d = jobsOk J := ⟨_, rfl⟩
  rw [← hR, ← hj, ← hd] at HV
  rw [← hR, ← hj] at HN
  rw [← hn, ← hj] at H1
  rw [← hn, ← hd] at H2
  rw [← hR, ← hn]
  obtain ⟨v, hv⟩ : ∃ v, v = fcDay s.data.toList d := ⟨_, rfl⟩
  rw [← hv] at HV
  have H3d := H3.out d
  rw [← hv] at H3d
  replace H3d := Lib.hid H3d
  clear H3 hR hn hd hj hv
  go_enter Try.func61, Try.ntmps61
  go_wp2_with fail
  refine (H1.out _ hJ).mono ?_
  rintro e w1 ⟨rfl, rfl⟩
  cases j with
  | false =>
    obtain rfl : R = false := HN.out rfl
    go_wp2_with fail
    go_ret
    exact ⟨rfl, Below.refl _ _⟩
  | true =>
    have HR := Lib.hid (HV.out rfl)
    go_wp2_with fail
    refine (H2.out _ hJ).mono ?_
    rintro e w1 ⟨rfl, rfl⟩
    go_wp2_with fail
    refine (H3d.out _).mono ?_
    rintro e w1 ⟨rfl, rfl⟩
    go_wp2_with fail
    go_ret
    exact ⟨ret_bool (by rw [HR.out]), Below.refl _ _⟩
set_option maxRecDepth 100000 in
theorem specPlan (s : ByteArray) (A AP : Option Addr) (c cP lo : Nat) (J : List Jb) (P : List Int) (hs : s.size ≤ maxLen) (hJn : J.length ≤ 1048576) (hPn : P.length ≤ 1048576) (hcP : P.length ≤ cP) (w : World) (hJ : Jbs w w.heap.size A J) (hP : Iv w lo w.heap.size AP P) :
    Calls Try.prog 34 #[.string s, .slice A J.length c, .slice AP P.length cP] w fun e w' => e = .returned (.bool (planInV s.data.toList J P)) ∧ Below w.heap.size w w' := by
  have H1 := Lib.hid (fun w' h => specOk s A c J hs hJn w' h)
  have H2 := Lib.hid (fun w' h => specOrders AP cP lo P hPn hcP w' h)
  have HV := Lib.hid (planInV_ord s.data.toList J P)
  obtain ⟨R, hR⟩ : ∃ R, R = planInV s.data.toList J P := ⟨_, rfl⟩
  obtain ⟨n, hn⟩ : ∃ n, n = J.length := ⟨_, rfl⟩
  obtain ⟨np, hnp⟩ : ∃ n, n = P.length := ⟨_, rfl⟩
  obtain ⟨j, hj⟩ : ∃ d, d = planV s.data.toList J := ⟨_, rfl⟩
  obtain ⟨o, ho⟩ : ∃ d, d = ordB P := ⟨_, rfl⟩
  rw [← hR, ← hj, ← ho, ← hn, ← hnp] at HV
  rw [← hn, ← hj] at H1
  rw [← hnp, ← ho] at H2
  rw [← hR, ← hn, ← hnp]
  clear hR hn hj hnp ho
  go_enter Try.func34, Try.ntmps34
  go_wp2_with fail
  refine (H1.out _ hJ).mono ?_
  rintro e w1 ⟨rfl, hb⟩
  cases j with
  | false =>
    obtain rfl : R = false := HV.out
    go_wp2_with fail
    go_ret
    exact ⟨rfl, hb⟩
  | true =>
    have hP1 := (hP.below hb (Nat.le_refl _)).more (Nat.le_refl _) hb.size
    go_wp2_with fail
    refine (H2.out _ hP1).mono ?_
    rintro e w2 ⟨rfl, k, rfl⟩
    cases o with
    | false =>
      obtain rfl : R = false := HV.out
      go_wp2_with fail
      go_ret
      exact ⟨rfl, below_drewN hb _⟩
    | true =>
      have HR : Hid (R = (np == n)) := HV.out
      go_wp2_with fail
      go_ret
      refine ⟨ret_bool ?_, below_drewN hb _⟩
      rw [HR.out]
      by_cases h : np = n
      · subst h; simp
      · have : ¬ (np : Int) = (n : Int) := by omega
        rw [bF this]; simpa using h
theorem specPlanB (s : ByteArray) (A : Option Addr) (c : Nat) (J : List Jb) (AP : Option Addr) (cP : Nat) (P : List Int) (hs : s.size ≤ maxLen) (hJn : J.length ≤ 1048576) (hPn : P.length ≤ 1048576) (w : World) (hJ : Jbs w w.heap.size A J) {lo : Nat} (hP : Iv w lo w.heap.size AP P) (hcP : P.length ≤ cP := by omega) :
    Calls Try.prog 34 #[.string s, .slice A J.length c, .slice AP P.length cP] w fun e w' => ∃ r, e = .returned (.bool r) ∧ r = planInV s.data.toList J P ∧ Below w.heap.size w w' :=
  (specPlan s A AP c cP lo J P hs hJn hPn hcP w hJ hP).mono fun _ _ ⟨he, hw⟩ => ⟨_, he, rfl, hw⟩
theorem implPlanB (s : ByteArray) (A : Option Addr) (c : Nat) (J : List Jb) (AP : Option Addr) (cP : Nat) (P : List Int) (hs : s.size ≤ maxLen) (hJn : J.length ≤ 1048576) (hPn : P.length ≤ 1048576) (w : World) (hJ : Jbs w w.heap.size A J) {lo : Nat} (hP : Iv w lo w.heap.size AP P) :
    Calls Try.prog 29 #[.string s, .slice A J.length c, .slice AP P.length cP] w fun e w' => ∃ r, e = .returned (.bool r) ∧ r = planInV s.data.toList J P ∧ Below w.heap.size w w' :=
  (implPlan s A AP c cP lo J P hs hJn (by unfold maxLen; omega) w hJ hP).mono fun _ _ ⟨he, hw⟩ => ⟨_, he, rfl, hw⟩
end Go.Proofs.Ytglncadfmomamaa
