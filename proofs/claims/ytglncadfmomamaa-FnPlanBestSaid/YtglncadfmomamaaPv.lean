/- Orders of numbers (permutations), plain and walked: reference and program. -/
import Derived.Test.YtglncadfmomamaaJobs
import Derived.Test.YtglncadfmomamaaFcI
namespace Go.Proofs.Ytglncadfmomamaa
set_option linter.unusedVariables false
set_option linter.unusedSimpArgs false
open Go.RowKit
/-- Is a list an order of the numbers below its length? -/
def permB (L : List Int) : Bool := decide ((∀ x, x ∈ L → 0 ≤ x ∧ x < L.length) ∧ L.Nodup)
def PreP (L : List Int) (k : Nat) : Prop := (∀ x, x ∈ L.take k → 0 ≤ x ∧ x < L.length) ∧ (L.take k).Nodup
theorem PreP.zero (L : List Int) : PreP L 0 := by simp [PreP]
theorem PreP.succ {L : List Int} {k : Nat} {x : Int} (h : PreP L k) (hx : L[k]? = some x) (h0 : 0 ≤ x) (h1 : x < L.length) (hn : x ∉ L.take k) : PreP L (k + 1) := by
  unfold PreP at h ⊢
  rw [List.take_add_one, hx]
  refine ⟨fun y hy => ?_, ?_⟩
  · simp only [Option.toList_some, List.mem_append, List.mem_singleton] at hy
    rcases hy with hy | rfl
    · exact h.1 y hy
    · exact ⟨h0, h1⟩
  · rw [List.nodup_append]
    refine ⟨h.2, by simp, fun a ha b hb => ?_⟩
    simp at hb
    subst hb
    rintro rfl
    exact hn ha
theorem PreP.whole {L : List Int} (h : PreP L L.length) : permB L = true := by
  unfold PreP at h
  rw [List.take_length] at h
  exact decide_eq_true h
theorem permB_out {L : List Int} {k : Nat} {x : Int} (hx : L[k]? = some x) (h : ¬ (0 ≤ x ∧ x < L.length)) : permB L = false :=
  decide_eq_false fun hp => h (hp.1 x (List.mem_of_getElem? hx))
theorem permB_twice {L : List Int} {k : Nat} {x : Int} (hx : L[k]? = some x) (h : x ∈ L.take k) : permB L = false := by
  refine decide_eq_false fun hp => ?_
  obtain ⟨i, hi⟩ := List.mem_iff_getElem?.1 h
  rw [List.getElem?_take] at hi
  split at hi
  · rename_i hik
    have h1 := (List.getElem?_eq_some_iff.1 hi)
    have h2 := (List.getElem?_eq_some_iff.1 hx)
    obtain ⟨h3, h4⟩ := h1
    obtain ⟨h5, h6⟩ := h2
    have := (List.nodup_iff_pairwise_ne.1 hp.2)
    rw [List.pairwise_iff_getElem] at this
    exact this i k h3 h5 hik (h4.trans h6.symm)
  · cases hi
theorem permB_spec {L : List Int} (h : permB L = true) : (∀ x, x ∈ L → 0 ≤ x ∧ x < L.length) ∧ L.Nodup := of_decide_eq_true h

theorem has_any (A : Option Addr) (c lo hi : Nat) (xs : List Int) (hn : xs.length ≤ 1048576) (x : Int) (w : World) (h : Iv w lo hi A xs) :
    Calls Try.prog 71 #[.slice A xs.length c, .int .i64 x] w fun e w' => e = .returned (.bool (xs.contains x)) ∧ w = w' := by
  obtain ⟨n, hnl⟩ : ∃ n, n = xs.length := ⟨_, rfl⟩
  obtain ⟨r, hr⟩ : ∃ r, r = xs.contains x := ⟨_, rfl⟩
  have Hn := Lib.hid hnl
  have HR := Lib.hid hr
  rw [← hr]
  rw [← hnl] at hn ⊢
  clear hnl hr
  go_enter Try.func71, Try.ntmps71
  go_wp2_with fail
  go_loop [5] (fun i => ∃ k : Nat, k ≤ n ∧ i = .int .i64 k ∧ Hid (x ∉ xs.take k)) (fun i => n - (intOf i).toNat)
  case atStart => exact ⟨0, by omega, rfl, by simp [Hid]⟩
  case round =>
    obtain ⟨k, hk, rfl, hall⟩ := hrel
    by_cases hlt : k < n
    · obtain ⟨b, off, rfl, _, hb, hc⟩ := h (by rw [← Hn.out]; omega)
      obtain ⟨y, hy⟩ : ∃ y, xs[k]? = some y := ⟨xs[k]'(by rw [← Hn.out]; exact hlt), List.getElem?_eq_getElem _⟩
      have c1 := hc k y hy
      replace hy := Lib.hid hy
      clear hc
      by_cases he : y = x
      · subst he
        have b1 := bT (rfl : y = y)
        have hR : Hid (r = true) := by
          show _ = _
          rw [HR.out]; exact List.elem_eq_true_of_mem (List.mem_of_getElem? hy.out)
        go_wp2_with fail
        go_ret
        exact ⟨ret_bool hR.out.symm, rfl⟩
      · have b1 := bF he
        have he2 := Lib.hid he
        clear he
        go_wp2_with fail
        go_round
        case rel =>
          refine ⟨k + 1, by omega, by go_num, ?_⟩
          show _ ∉ _
          rw [List.take_add_one, hy.out]
          simp only [Option.toList_some, List.mem_append, List.mem_singleton, not_or]
          exact ⟨hall.out, fun e => he2.out e.symm⟩
        case measure => simp [intOf]; omega
    · obtain rfl : k = n := by omega
      have hR : Hid (r = false) := by
        show _ = _
        have h2 := hall.out
        rw [List.take_of_length_le (by rw [← Hn.out]; exact Nat.le_refl _)] at h2
        rw [HR.out]; simpa using h2
      go_wp2_with fail
      go_ret
      exact ⟨ret_bool hR.out.symm, rfl⟩
theorem Iv.take {w : World} {lo hi : Nat} {A : Option Addr} {xs : List Int} (h : Iv w lo hi A xs) (k : Nat) : Iv w lo hi A (xs.take k) := fun h0 => by
  obtain ⟨b, off, rfl, h1, h2, hc⟩ := h (by rw [List.length_take] at h0; omega)
  refine ⟨b, off, rfl, h1, h2, fun i x hx => hc i x ?_⟩
  rw [List.getElem?_take] at hx
  split at hx
  · exact hx
  · cases hx
def ordB (L : List Int) : Bool := permB L && decide (L.length ≤ 10)
theorem Iv.drewN {w : World} {lo hi : Nat} {A : Option Addr} {xs : List Int} (h : Iv w lo hi A xs) (n : Nat) : Iv (w.drewN n) lo hi A xs := h
set_option maxRecDepth 100000 in
theorem specOrders (A : Option Addr) (c lo : Nat) (xs : List Int) (hn : xs.length ≤ 1048576) (hcap : xs.length ≤ c) (w : World) (h : Iv w lo w.heap.size A xs) :
    Calls Try.prog 74 #[.slice A xs.length c] w fun e w' => e = .returned (.bool (ordB xs)) ∧ ∃ k, w' = w.drewN k := by
  obtain ⟨n, hnl⟩ : ∃ n, n = xs.length := ⟨_, rfl⟩
  obtain ⟨R, hr⟩ : ∃ r, r = ordB xs := ⟨_, rfl⟩
  have Hn := Lib.hid hnl
  have HR := Lib.hid hr
  rw [← hr]
  rw [← hnl] at hn hcap ⊢
  clear hnl hr
  have Hno : Hid (permB xs = false → R = false) := fun h => by rw [HR.out, ordB, h]; rfl
  go_enter Try.func74, Try.ntmps74
  go_wp2_with fail
  go_loopw [3] (fun i wr => ∃ (k d : Nat), k ≤ n ∧ i = .int .i64 k ∧ Hid (PreP xs k) ∧ wr = w.drewN d) (fun i _ => n - (intOf i).toNat)
  case atStart => exact ⟨0, 0, by omega, rfl, PreP.zero _, rfl⟩
  case round =>
    obtain ⟨k, d, hk, rfl, hall, hwd⟩ := hrel
    have h : Iv wr lo w.heap.size A xs := by rw [hwd]; exact h
    replace hwd := Lib.hid hwd
    by_cases hlt : k < n
    · have hI := Lib.hid (h.take k)
      obtain ⟨b, off, rfl, _, hb, hc⟩ := h (by rw [← Hn.out]; omega)
      obtain ⟨y, hy⟩ : ∃ y, xs[k]? = some y := ⟨xs[k]'(by rw [← Hn.out]; exact hlt), List.getElem?_eq_getElem _⟩
      have c1 := hc k y hy
      replace hy := Lib.hid hy
      have hl : Hid ((xs.take k).length = k) := by show _ = _; rw [List.length_take, ← Hn.out]; omega
      obtain ⟨r, h1⟩ : ∃ r, inB y 0 (n - 1) = r := ⟨_, rfl⟩
      obtain ⟨q, h2⟩ : ∃ q, (xs.take k).contains y = q := ⟨_, rfl⟩
      have HH := fun w' (hw : Iv w' lo w.heap.size (some ⟨b, off, none⟩) (xs.take k)) => has_any (some ⟨b, off, none⟩) c lo w.heap.size (xs.take k) (by rw [hl.out]; omega) y w' hw
      rw [h2, hl.out] at HH
      replace HH := Lib.hid HH
      replace h1 := Lib.hid h1
      replace h2 := Lib.hid h2
      have w1 : IntKind.i64.wrap ((n : Int) - 1) = (n : Int) - 1 := IntWalk.i64_in _ (by omega)
      clear hc
      cases r with
      | false =>
        have hR : Hid (R = false) := Hno.out (permB_out hy.out (fun h => by
          have := h1.out
          have : inB y 0 (n - 1) = true := inB_iff.2 ⟨h.1, by have := Hn.out; omega⟩
          rw [h1.out] at this; cases this))
        go_wp2_with fail
        go_quiet (first | (go_at_call 48; exact Calls.quiet_of_same ((l6In_b _ _ _ _ h1.out _).mono fun _ _ h => ⟨h.1, h.2.symm⟩)))
        go_wp2_with fail
        go_ret
        exact ⟨ret_bool hR.out.symm, _, by rw [hwd.out, World.drewN_drewN]⟩
      | true =>
        go_wp2_with fail
        go_quiet (first | (go_at_call 48; exact Calls.quiet_of_same ((l6In_b _ _ _ _ h1.out _).mono fun _ _ h => ⟨h.1, h.2.symm⟩)) | (go_at_call 71; exact Calls.quiet_of_same ((HH.out _ (hI.out.drewN _)).mono fun _ _ h => ⟨h.1, h.2.symm⟩)))
        have hin := inB_iff.1 h1.out
        replace hin := Lib.hid hin
        cases q with
        | true =>
          have hR : Hid (R = false) := Hno.out (permB_twice hy.out (by have := h2.out; simpa using this))
          go_wp2_with fail
          go_ret
          exact ⟨ret_bool hR.out.symm, _, by rw [hwd.out, World.drewN_drewN]⟩
        | false =>
          go_wp2_with fail
          go_roundw
          case rel => exact ⟨k + 1, _, by omega, by go_num, hall.out.succ hy.out hin.out.1 (by have := hin.out.2; have := Hn.out; omega) (by have := h2.out; simpa using this), by rw [hwd.out, World.drewN_drewN]⟩
          case measure => simp [intOf]; omega
    · obtain rfl : k = n := by omega
      have hR : Hid (R = decide (k ≤ 10)) := by
        have h2 := hall.out
        rw [Hn.out] at h2
        show _ = _
        rw [HR.out, ordB, h2.whole, ← Hn.out]; rfl
      go_wp2_with fail
      go_ret
      refine ⟨ret_bool ?_, d, hwd.out⟩
      rw [hR.out]
      exact decide_eq_decide.2 (by omega)
end Go.Proofs.Ytglncadfmomamaa
