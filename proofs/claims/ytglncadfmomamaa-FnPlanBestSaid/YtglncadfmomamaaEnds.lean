/- The ends and the loss of a plan: plain laws; PlanLoss of the program; PlanEnds and PlanLoss of the reference, walked. -/
import Derived.Test.YtglncadfmomamaaLoss
import Derived.Test.YtglncadfmomamaaRes
import Derived.Test.YtglncadfmomamaaFcLaw
namespace Go.Proofs.Ytglncadfmomamaa
set_option linter.unusedVariables false
set_option linter.unusedSimpArgs false
open Go.RowKit
theorem planIn_fit {l : List UInt8} {J : List Jb} {P : List Int} (h : planInV l J P = true) : fcValid l = true ∧ l.length ≤ 30 ∧ JobsFit J ∧ PlanFit J P ∧ P.length = J.length ∧ permB P = true := by
  unfold planInV planV planOk at h
  simp only [Bool.and_eq_true, beq_iff_eq] at h
  obtain ⟨⟨hv, hj, _⟩, hl, hp⟩ := h
  obtain ⟨h6, hin⟩ := jobsOk_n hj
  have hf : JobsFit J := fun k hk => by
    have e : jAt J (k : Nat) = J[k] := by unfold jAt; rw [Int.toNat_natCast, List.getD, List.getElem?_eq_getElem hk]; rfl
    rw [e]; exact hin k _ (List.getElem?_eq_getElem hk)
  obtain ⟨hp1, hp2⟩ := permB_spec hp
  have hPJ : ∀ k, k < P.length → 0 ≤ P.getD k 0 ∧ P.getD k 0 < J.length := fun k hk => by
    have := hp1 (P.getD k 0) (by rw [List.getD, List.getElem?_eq_getElem hk]; exact List.getElem_mem hk)
    omega
  refine ⟨hv, fcValid_len hv, hf, ⟨by omega, hPJ, fun k hk => ?_⟩, hl, hp⟩
  have : ∀ k, k ≤ P.length → 0 ≤ workTo J P k ∧ workTo J P k ≤ 9 * k := by
    intro k
    induction k with
    | zero => intro _; simp [workTo]
    | succ k ih =>
      intro hk
      have h1 := ih (by omega)
      have h2 := hPJ k (by omega)
      obtain ⟨q, hq⟩ := Int.eq_ofNat_of_zero_le h2.1
      rw [workTo, hq]
      have h3 := hf q (by omega)
      omega
  have := this k hk
  omega
/-- The ends, as far as the first k repairs go. -/
def endsTo (ls : List UInt8) (J : List Jb) (P : List Int) : Nat → List Int
  | 0 => List.replicate J.length 0
  | k + 1 => (endsTo ls J P k).set (P.getD k 0).toNat (fcEnd ls (workTo J P (k + 1)))
theorem endsTo_length (ls : List UInt8) (J : List Jb) (P : List Int) (k : Nat) : (endsTo ls J P k).length = J.length := by
  induction k with
  | zero => simp [endsTo]
  | succ k ih => rw [endsTo, List.length_set, ih]
def endsV (ls : List UInt8) (J : List Jb) (P : List Int) : List Int := endsTo ls J P P.length
def endsR (l : List UInt8) (J : List Jb) (P : List Int) (xs : List Int) (ok : Bool) : Prop := xs = (if planInV l J P = true then endsV l J P else []) ∧ ok = planInV l J P
theorem endsR_one (l : List UInt8) (J : List Jb) (P : List Int) : Fn1 (endsR l J P) := fun xs ok ys ok' h1 h2 => ⟨h1.1.trans h2.1.symm, h1.2.trans h2.2.symm⟩
theorem endsR_len {l : List UInt8} {J : List Jb} {P xs : List Int} {ok : Bool} (hJ : J.length ≤ 1048576) (h : endsR l J P xs ok) : xs.length ≤ 1048576 := by
  rw [h.1]
  split
  · unfold endsV; rw [endsTo_length]; exact hJ
  · simp
/-- The weighted sum of the first i ends. -/
def dotTo (J : List Jb) (E : List Int) : Nat → Int
  | 0 => 0
  | i + 1 => dotTo J E i + E.getD i 0 * (jAt J (i : Nat)).w
theorem getD_set_self (E : List Int) (p : Nat) (v : Int) (h : p < E.length) : (E.set p v).getD p 0 = v := by
  rw [List.getD, List.getElem?_set_self h]; rfl
theorem getD_set_ne (E : List Int) (p q : Nat) (v : Int) (h : p ≠ q) : (E.set p v).getD q 0 = E.getD q 0 := by
  rw [List.getD, List.getElem?_set_ne h]; rfl
theorem dotTo_set (J : List Jb) (E : List Int) (p : Nat) (v : Int) (hp : p < E.length) (h0 : E.getD p 0 = 0) (i : Nat) : dotTo J (E.set p v) i = dotTo J E i + (if p < i then (jAt J (p : Nat)).w * v else 0) := by
  induction i with
  | zero => simp [dotTo]
  | succ i ih =>
    rw [dotTo, dotTo, ih]
    by_cases h : p = i
    · subst h
      rw [getD_set_self _ _ _ hp, h0, if_neg (by omega), if_pos (by omega), Int.mul_comm v]; omega
    · rw [getD_set_ne _ _ _ _ h]
      by_cases h2 : p < i
      · rw [if_pos h2, if_pos (by omega)]; omega
      · rw [if_neg h2, if_neg (by omega)]; omega
theorem endsTo_zero {ls : List UInt8} {J : List Jb} {P : List Int} (hp : ∀ k, k < P.length → 0 ≤ P.getD k 0) (q : Nat) : ∀ k, k ≤ P.length → (∀ j, j < k → P.getD j 0 ≠ q) → (endsTo ls J P k).getD q 0 = 0
  | 0, _, _ => by
    unfold endsTo
    rw [List.getD, List.getElem?_replicate]
    split <;> rfl
  | k + 1, hk, h => by
    rw [endsTo, getD_set_ne _ _ _ _ (fun e => h k (by omega) (by have := hp k (by omega); omega))]
    exact endsTo_zero hp q k (by omega) (fun j hj => h j (by omega))
theorem dot_ends {ls : List UInt8} {J : List Jb} {P : List Int} (hpm : permB P = true) (hl : P.length = J.length) : ∀ k, k ≤ P.length → dotTo J (endsTo ls J P k) J.length = lossOn ls J P (List.range k)
  | 0, _ => by
    have : ∀ i, dotTo J (endsTo ls J P 0) i = 0 := fun i => by
      induction i with
      | zero => rfl
      | succ i ih =>
        rw [dotTo, ih, endsTo, List.getD, List.getElem?_replicate]
        split <;> simp
    rw [this]; simp [lossOn]
  | k + 1, hk => by
    obtain ⟨hin, hnd⟩ := permB_spec hpm
    have hg : ∀ j (hj : j < P.length), P.getD j 0 = P[j] := fun j hj => by rw [List.getD, List.getElem?_eq_getElem hj]; rfl
    have h0 : ∀ j, j < P.length → 0 ≤ P.getD j 0 ∧ P.getD j 0 < J.length := fun j hj => by
      have := hin (P.getD j 0) (by rw [hg j hj]; exact List.getElem_mem hj)
      omega
    obtain ⟨h1, h2⟩ := h0 k (by omega)
    obtain ⟨q, hq⟩ := Int.eq_ofNat_of_zero_le h1
    have hz : (endsTo ls J P k).getD q 0 = 0 := endsTo_zero (fun j hj => (h0 j hj).1) q k (by omega) (fun j hj e => by
      have e2 : P[j]'(by omega) = P[k]'(by omega) := by rw [← hg j (by omega), ← hg k (by omega), e, hq]
      have := (List.nodup_iff_pairwise_ne.1 hnd)
      rw [List.pairwise_iff_getElem] at this
      exact this j k (by omega) (by omega) hj e2)
    rw [endsTo, hq, Int.toNat_natCast, dotTo_set J _ q _ (by rw [endsTo_length]; omega) hz, if_pos (by omega), dot_ends hpm hl k (by omega), List.range_succ, lossOn_snoc, hq]
def planLossV (l : List UInt8) (J : List Jb) (P : List Int) : Int := if planInV l J P = true then lossV l J P else -1
theorem planLossV_no {l : List UInt8} {J : List Jb} {P : List Int} (h : planInV l J P = false) : planLossV l J P = -1 := by rw [planLossV, h]; rfl
theorem planLossV_yes {l : List UInt8} {J : List Jb} {P : List Int} (h : planInV l J P = true) : planLossV l J P = lossV l J P := by rw [planLossV, if_pos h]
set_option maxRecDepth 100000 in
theorem implPlanLoss (s : ByteArray) (A : Option Addr) (c : Nat) (J : List Jb) (AP : Option Addr) (cP : Nat) (P : List Int) (hs : s.size ≤ maxLen) (hJn : J.length ≤ 1048576) (hPn : P.length ≤ 1048576) (w : World) (hJ : Jbs w w.heap.size A J) {lo : Nat} (hP : Iv w lo w.heap.size AP P) :
    Calls Try.prog 30 #[.string s, .slice A J.length c, .slice AP P.length cP] w fun e w' => ∃ r, e = .returned (.int .i64 r) ∧ r = planLossV s.data.toList J P ∧ Below w.heap.size w w' := by
  have H := Lib.hid (fun w' h1 h2 => planIn_any s A AP c cP lo J P hs hJn (by unfold maxLen; omega) w' h1 h2)
  cases hv : planInV s.data.toList J P with
  | false =>
    rw [planLossV_no hv]
    rw [hv] at H
    obtain ⟨n, hn⟩ : ∃ n, n = J.length := ⟨_, rfl⟩
    obtain ⟨np, hnp⟩ : ∃ n, n = P.length := ⟨_, rfl⟩
    rw [← hn, ← hnp] at H
    rw [← hn, ← hnp]
    clear hn hnp hv
    go_enter Try.func30, Try.ntmps30
    go_wp2_with fail
    refine (H.out _ hJ hP).mono ?_
    rintro e w1 ⟨m, hm, rfl, hb⟩
    clear hm
    go_wp2_with fail
    go_ret
    exact ⟨_, rfl, rfl, hb.alloc hb.size _⟩
  | true =>
    rw [planLossV_yes hv]
    obtain ⟨hfv, hl30, hjf, hpf, hlen, hperm⟩ := planIn_fit hv
    have HL := Lib.hid (fun w' h1 h2 => loss_any s.data.toList AP A cP c J P hl30 hpf hjf lo w' h1 h2)
    rw [hv] at H
    obtain ⟨V, hV⟩ : ∃ V, V = lossV s.data.toList J P := ⟨_, rfl⟩
    rw [← hV] at HL ⊢
    obtain ⟨n, hn⟩ : ∃ n, n = J.length := ⟨_, rfl⟩
    obtain ⟨np, hnp⟩ : ∃ n, n = P.length := ⟨_, rfl⟩
    obtain ⟨z, hz⟩ : ∃ z, z = s.data.toList.length := ⟨_, rfl⟩
    have Hz := Lib.hid hz
    rw [← hn, ← hnp] at H HL
    rw [← hz] at HL
    rw [← hn, ← hnp]
    clear hn hnp hv hfv hl30 hjf hpf hlen hperm hV hz
    go_enter Try.func30, Try.ntmps30
    go_wp2_with fail
    refine (H.out _ hJ hP).mono ?_
    rintro e w1 ⟨m, hm, rfl, hb⟩
    rw [← Hz.out, hm rfl]
    clear hm
    have hb1 := hb.alloc hb.size (Obj.cells #[.int .u32 (maskL s.data.toList), .int .i64 z] 64)
    have hJ1 := (hJ.below hb1).more hb1.size
    have hP1 := (hP.below hb1 (Nat.le_refl _)).more (Nat.le_refl _) hb1.size
    go_wp2_with fail
    refine (HL.out _ hJ1 hP1).mono ?_
    rintro e w2 ⟨rfl, hb2⟩
    go_wp2_with fail
    go_ret
    exact ⟨_, rfl, rfl, hb1.trans (hb2.mono hb1.size)⟩
end Go.Proofs.Ytglncadfmomamaa
