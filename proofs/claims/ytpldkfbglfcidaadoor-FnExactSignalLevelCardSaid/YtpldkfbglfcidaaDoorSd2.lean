/- SignalDrift of the reference and of the program, walked. -/
import Derived.Test.YtpldkfbglfcidaaDoorSd
namespace Go.Proofs.YtpldkfbglfcidaaDoor
set_option linter.unusedVariables false
set_option linter.unusedSimpArgs false
open Go.RowKit
def driftR (l : List UInt8) (xs : List Int) (ok : Bool) : Prop := xs = (if sgValid l = true then drifts l l.length else []) ∧ ok = sgValid l
theorem driftR_one (l : List UInt8) : Fn1 (driftR l) := fun xs ok ys ok' h1 h2 => ⟨h1.1.trans h2.1.symm, h1.2.trans h2.2.symm⟩
theorem sgValid_80 {s : ByteArray} (h : sgValid s.data.toList = true) : s.size ≤ 80 := by
  unfold sgValid at h
  rw [Bool.and_eq_true, decide_eq_true_eq] at h
  simpa using h.2
theorem driftR_len {s : ByteArray} {xs : List Int} {ok : Bool} (h : driftR s.data.toList xs ok) : xs.length ≤ 1048576 := by
  rw [h.1]
  split
  · rename_i hv
    rw [drifts_length]
    have := sgValid_80 hv
    simp; omega
  · simp
set_option maxRecDepth 100000 in
theorem implSd (s : ByteArray) (hs : s.size ≤ maxLen) (w : World) :
    Calls Tryd.prog 23 #[.string s] w (SlPost (driftR s.data.toList) w) := by
  have H := Lib.hid (implSv s hs)
  have hlen : s.data.toList.length = s.size := by simp
  cases hv : sgValid s.data.toList with
  | false =>
    have hR : Hid (driftR s.data.toList [] false) := ⟨by rw [hv]; rfl, hv.symm⟩
    rw [hv] at H
    clear hv
    go_enter Tryd.func23, Tryd.ntmps23
    go_wp2_with fail
    refine (H.out _).mono ?_
    rintro e w1 ⟨rfl, hb⟩
    go_wp2_with fail
    go_ret2
    exact SlPost.mk hR.out (Own.nil _ _) hb
  | true =>
    have hR : Hid (driftR s.data.toList (drifts s.data.toList s.size) true) := ⟨by rw [if_pos hv, hlen], hv.symm⟩
    have HD := Lib.hid (implDr s (sgValid_80 hv))
    rw [hv] at H
    clear hv hlen
    go_enter Tryd.func23, Tryd.ntmps23
    go_wp2_with fail
    refine (H.out _).mono ?_
    rintro e w1 ⟨rfl, hb⟩
    go_wp2_with fail
    refine (HD.out _).mono ?_
    rintro e w2 ⟨A, c, xs, rfl, hxs, hO, hb2⟩
    replace hxs := Lib.hid hxs
    go_wp2_with fail
    go_ret2
    exact SlPost.mk (by rw [hxs.out]; exact hR.out) (hO.more hb.size) (hb.trans (hb2.mono hb.size))
set_option maxRecDepth 100000 in
theorem specSd (s : ByteArray) (hs : s.size ≤ maxLen) (w : World) :
    Calls Tryd.prog 22 #[.string s] w (SpPost (driftR s.data.toList) w) := by
  have H := Lib.hid (specSv s hs)
  have hlen : s.data.toList.length = s.size := by simp
  cases hv : sgValid s.data.toList with
  | false =>
    have hR : Hid (driftR s.data.toList [] false) := ⟨by rw [hv]; rfl, hv.symm⟩
    rw [hv] at H
    clear hv
    go_enter Tryd.func22, Tryd.ntmps22
    go_wp2_with fail
    refine (H.out _).mono ?_
    rintro e w1 ⟨rfl, rfl⟩
    go_wp2_with fail
    go_ret2
    exact (SlPost.mk hR.out (Own.lit0 w _ (Nat.le_refl _)) ((Below.refl _ _).alloc (Nat.le_refl _) _)).sp
  | true =>
    have hR : Hid (driftR s.data.toList (drifts s.data.toList s.size) true) := ⟨by rw [if_pos hv, hlen], hv.symm⟩
    have HL := Lib.hid (drifts_length s.data.toList s.size)
    have HD := Lib.hid (specDr s (sgValid_80 hv))
    have h80 := sgValid_80 hv
    rw [hv] at H
    obtain ⟨D, hD⟩ : ∃ D, D = drifts s.data.toList s.size := ⟨_, rfl⟩
    rw [← hD] at hR HL HD
    obtain ⟨n, hn⟩ : ∃ n, n = s.size := ⟨_, rfl⟩
    rw [← hn] at HL h80
    clear hv hlen hD hn
    go_enter Tryd.func22, Tryd.ntmps22
    go_wp2_with fail
    refine (H.out _).mono ?_
    rintro e w1 ⟨rfl, rfl⟩
    go_wp2_with fail
    refine (HD.out _).mono ?_
    rintro e w2 ⟨A, c, xs, rfl, hxs, hO, hb2⟩
    subst hxs
    obtain ⟨g, rfl, hg, hlt⟩ := hO.some (by simp)
    have hcl : D.length + 1 ≤ c ∧ c ≤ maxLen := by
      obtain ⟨A', c', e, h1, h2⟩ := hO.form
      injection e with _ _ e3
      subst e3
      exact ⟨by simpa using h1, h2⟩
    have hci : Hid (∀ i x, D[i]? = some x → w2.cell? ⟨g, 1 + i, none⟩ = some (.int .i64 x)) := fun i x hx => hO.cell (i := 1 + i) (by rw [Nat.add_comm 1]; simpa using hx)
    have hdl : (0 :: D).length = n + 1 := by rw [List.length_cons, HL.out]
    rw [HL.out] at hcl
    obtain ⟨hc1, hc2⟩ := hcl
    unfold maxLen at hc2
    rw [hdl]
    clear hO hdl
    go_wp2_with fail
    all_goals go_ret2
    · exact ⟨_, _, D, true, by rw [HL.out]; rfl, hR.out, fun h0 => absurd h0 (by rw [HL.out]; omega), hb2⟩
    · exact ⟨_, _, D, true, by rw [HL.out]; rfl, hR.out, fun _ => ⟨g, 1, rfl, hg, hlt, hci.out⟩, hb2⟩
end Go.Proofs.YtpldkfbglfcidaaDoor
