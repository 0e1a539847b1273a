/- The law FnSignalVote, walked. -/
import Derived.Test.YtpldkfbglfcidaaDoorDm
import Derived.Test.YtpldkfbglfcidaaDoorVoP
import Derived.Test.YtpldkfbglfcidaaDoorStI
namespace Go.Proofs.YtpldkfbglfcidaaDoor
set_option linter.unusedVariables false
set_option linter.unusedSimpArgs false
open Go.RowKit
theorem voteR_at {a b c out : ByteArray} (h : voteR a.data.toList b.data.toList c.data.toList out true) :
    a.size = b.size ∧ a.size = c.size ∧ out.size = a.size ∧ ∀ k (h1 : k < a.size) (h2 : k < b.size) (h3 : k < c.size) (h4 : k < out.size), out[k] = voteC a[k] b[k] c[k] := by
  have hv := h.2.symm
  obtain ⟨-, -, -, h4, h5⟩ := voteOk_parts hv
  have e : out.data.toList = voteTo a.data.toList b.data.toList c.data.toList a.data.toList.length := by
    rw [h.1]; unfold voteS; rw [if_pos hv]
  have es : out.size = a.size := by
    have := congrArg List.length e
    rw [voteTo_length] at this
    simpa using this
  refine ⟨by simpa using h4, by simpa using h5, es, fun k h1 h2 h3 h6 => ?_⟩
  have e2 := at_list out k h6
  rw [e] at e2
  unfold voteTo at e2
  rw [List.getElem?_map, List.getElem?_range (by simpa using h1)] at e2
  simp only [Option.map_some, Option.some.injEq] at e2
  rw [← e2]
  simp only [List.getD, at_list a k h1, at_list b k h2, at_list c k h3, Option.getD_some]
theorem self_str (a : ByteArray) : (⟨a.data.toList.toArray⟩ : ByteArray) = a := by simp
set_option maxHeartbeats 2000000 in
set_option maxRecDepth 100000 in
theorem law_SignalVote (a0 : Option Addr) (len0 cap0 : Nat) (z0 : List Int) (w : World) (w0 : ArgB w a0 len0 cap0 z0) :
    Calls Tryd.prog 9 #[.slice a0 len0 cap0] w fun e w' => e = .returned (.bool true) ∧ Below w.heap.size w w' := by
  obtain ⟨hl0, hm0, hby0⟩ := w0.byt
  have hm0' := hm0
  unfold maxLen at hm0'
  by_cases h0 : 1048576 < len0
  · go_enter Tryd.func9, Tryd.ntmps9
    go_wp2_with fail
    go_ret
    exact ⟨rfl, Below.refl _ _⟩
  have hdr := Lib.hid (drawVote a0 len0 cap0 hl0 hm0 _ hby0)
  have HI := Lib.hid (fun (x y z : ByteArray) (hx : x.size ≤ 200) (hy : y.size ≤ 200) (hz : z.size ≤ 200) w => implSt x y z (by unfold maxLen; omega) (by unfold maxLen; omega) (by unfold maxLen; omega) w)
  have HS := Lib.hid (fun (x y z : ByteArray) (hx : x.size ≤ 200) (hy : y.size ≤ 200) (hz : z.size ≤ 200) w => specSt x y z (by unfold maxLen; omega) (by unfold maxLen; omega) (by unfold maxLen; omega) w)
  go_enter Tryd.func9, Tryd.ntmps9
  go_wp2_with fail
  refine hdr.out.mono ?_
  rintro e w1 ⟨a, b, c, ha, hb, hc, rfl, hw1⟩
  go_wp2_with fail
  refine (HI.out a b c ha hb hc _).mono ?_
  rintro e w2 ⟨out, ok, rfl, hR, hb2⟩
  replace hR := Lib.hid hR
  replace hw1 := hw1.trans (hb2.mono hw1.size)
  clear hb2
  go_wp2_with fail
  refine (HS.out a b c ha hb hc _).mono ?_
  rintro e w3 ⟨want, told, rfl, hR2, hb3⟩
  obtain ⟨rfl, rfl⟩ := voteR_one _ _ _ _ _ _ _ hR.out hR2
  replace hw1 := hw1.trans (hb3.mono hw1.size)
  clear hb3 hR2
  cases ok with
  | false =>
    go_wp2_with fail
    go_ret
    exact ⟨by simp, hw1⟩
  | true =>
    obtain ⟨v1, v2, v3⟩ := votes_law hR.out.2.symm
    rw [← hR.out.1] at v1 v2
    rw [self_str] at v3
    replace v1 := Lib.hid v1
    replace v2 := Lib.hid v2
    replace v3 := Lib.hid v3
    obtain ⟨hab, hac, hoa, hat⟩ := voteR_at hR.out
    have Hat := Lib.hid hat
    clear hat
    go_wp2_with fail
    refine (HI.out c a b hc ha hb _).mono ?_
    rintro e w4 ⟨x, p, rfl, hx, hb4⟩
    obtain ⟨rfl, rfl⟩ := voteR_one _ _ _ _ _ _ _ v1.out hx
    replace hw1 := hw1.trans (hb4.mono hw1.size)
    clear hb4 hx
    go_wp2_with fail
    refine (HI.out b a c hb ha hc _).mono ?_
    rintro e w5 ⟨y, p, rfl, hy, hb5⟩
    obtain ⟨rfl, rfl⟩ := voteR_one _ _ _ _ _ _ _ v2.out hy
    replace hw1 := hw1.trans (hb5.mono hw1.size)
    clear hb5 hy
    go_wp2_with fail
    refine (HI.out a a b ha ha hb _).mono ?_
    rintro e w6 ⟨z, p, rfl, hz, hb6⟩
    obtain ⟨rfl, rfl⟩ := voteR_one _ _ _ _ _ _ _ v3.out hz
    replace hw1 := hw1.trans (hb6.mono hw1.size)
    clear hb6 hz
    have Hab := Lib.hid hab
    have Hac := Lib.hid hac
    have Hoa := Lib.hid hoa
    clear hab hac hoa
    go_wp2_with fail
    go_loopw [16] (fun i wr => ∃ k : Nat, k ≤ out.size ∧ i = .int .i64 k ∧ Below w.heap.size w wr) (fun i _ => out.size - (intOf i).toNat)
    case atStart => exact ⟨0, by omega, rfl, hw1⟩
    case round =>
      obtain ⟨k, hk, rfl, hbel⟩ := hrel
      by_cases hlt : k < out.size
      · have ka : k < a.size := by have := Hoa.out; omega
        have kb : k < b.size := by have := Hab.out; omega
        have kc : k < c.size := by have := Hac.out; omega
        have h2 := voteC_two a[k] b[k] c[k]
        rw [← Hat.out k ka kb kc hlt] at h2
        have h3 : (((a[k].toNat : Int) = out[k].toNat ∧ (b[k].toNat : Int) = out[k].toNat) ∨ ((a[k].toNat : Int) = out[k].toNat ∧ (c[k].toNat : Int) = out[k].toNat) ∨ ((b[k].toNat : Int) = out[k].toNat ∧ (c[k].toNat : Int) = out[k].toNat)) ∨ (out[k].toNat : Int) = 48 := by
          rcases h2 with (⟨e1, e2⟩ | ⟨e1, e2⟩ | ⟨e1, e2⟩) | e1
          · exact .inl (.inl ⟨by rw [← e1], by rw [← e2]⟩)
          · exact .inl (.inr (.inl ⟨by rw [← e1], by rw [← e2]⟩))
          · exact .inl (.inr (.inr ⟨by rw [← e1], by rw [← e2]⟩))
          · exact .inr (by rw [e1]; rfl)
        clear h2
        obtain ⟨h3, hkk⟩ : Hid _ ∧ k + 1 ≤ out.size := ⟨Lib.hid h3, by omega⟩
        by_cases e1 : (a[k].toNat : Int) = out[k].toNat <;> by_cases e2 : (b[k].toNat : Int) = out[k].toNat <;> by_cases e3 : (c[k].toNat : Int) = out[k].toNat
        · have t1 := bT e1
          have t2 := bT e2
          have t3 := bT e3
          clear e1 e2 e3 h3
          go_wp2_with fail
          go_quiet (fail)
          go_wp2_with fail
          go_quiet (fail)
          go_wp2_with fail
          go_quiet (fail)
          go_wp2_with fail
          go_roundw
          case rel => exact ⟨k + 1, by omega, by go_num, below_drewN hbel _⟩
          case measure => simp [intOf]; omega
        · have t1 := bT e1
          have t2 := bT e2
          have t3 := bF e3
          clear e1 e2 e3 h3
          go_wp2_with fail
          go_quiet (fail)
          go_wp2_with fail
          go_quiet (fail)
          go_wp2_with fail
          go_quiet (fail)
          go_wp2_with fail
          go_roundw
          case rel => exact ⟨k + 1, by omega, by go_num, below_drewN hbel _⟩
          case measure => simp [intOf]; omega
        · have t1 := bT e1
          have t2 := bF e2
          have t3 := bT e3
          clear e1 e2 e3 h3
          go_wp2_with fail
          go_quiet (fail)
          go_wp2_with fail
          go_quiet (fail)
          go_wp2_with fail
          go_quiet (fail)
          go_wp2_with fail
          go_roundw
          case rel => exact ⟨k + 1, by omega, by go_num, below_drewN hbel _⟩
          case measure => simp [intOf]; omega
        · have t1 := bT e1
          have t2 := bF e2
          have t3 := bF e3
          have t4 : (out[k].toNat : Int) = 48 := by have := h3.out; omega
          have t5 := nF t4
          clear t4
          clear e1 e2 e3 h3
          go_wp2_with fail
          go_quiet (fail)
          go_wp2_with fail
          go_quiet (fail)
          go_wp2_with fail
          go_quiet (fail)
          go_wp2_with fail
          go_roundw
          case rel => exact ⟨k + 1, by omega, by go_num, below_drewN hbel _⟩
          case measure => simp [intOf]; omega
        · have t1 := bF e1
          have t2 := bT e2
          have t3 := bT e3
          clear e1 e2 e3 h3
          go_wp2_with fail
          go_quiet (fail)
          go_wp2_with fail
          go_quiet (fail)
          go_wp2_with fail
          go_quiet (fail)
          go_wp2_with fail
          go_roundw
          case rel => exact ⟨k + 1, by omega, by go_num, below_drewN hbel _⟩
          case measure => simp [intOf]; omega
        · have t1 := bF e1
          have t2 := bT e2
          have t3 := bF e3
          have t4 : (out[k].toNat : Int) = 48 := by have := h3.out; omega
          have t5 := nF t4
          clear t4
          clear e1 e2 e3 h3
          go_wp2_with fail
          go_quiet (fail)
          go_wp2_with fail
          go_quiet (fail)
          go_wp2_with fail
          go_quiet (fail)
          go_wp2_with fail
          go_roundw
          case rel => exact ⟨k + 1, by omega, by go_num, below_drewN hbel _⟩
          case measure => simp [intOf]; omega
        · have t1 := bF e1
          have t2 := bF e2
          have t3 := bT e3
          have t4 : (out[k].toNat : Int) = 48 := by have := h3.out; omega
          have t5 := nF t4
          clear t4
          clear e1 e2 e3 h3
          go_wp2_with fail
          go_quiet (fail)
          go_wp2_with fail
          go_quiet (fail)
          go_wp2_with fail
          go_quiet (fail)
          go_wp2_with fail
          go_roundw
          case rel => exact ⟨k + 1, by omega, by go_num, below_drewN hbel _⟩
          case measure => simp [intOf]; omega
        · have t1 := bF e1
          have t2 := bF e2
          have t3 := bF e3
          have t4 : (out[k].toNat : Int) = 48 := by have := h3.out; omega
          have t5 := nF t4
          clear t4
          clear e1 e2 e3 h3
          go_wp2_with fail
          go_quiet (fail)
          go_wp2_with fail
          go_quiet (fail)
          go_wp2_with fail
          go_quiet (fail)
          go_wp2_with fail
          go_roundw
          case rel => exact ⟨k + 1, by omega, by go_num, below_drewN hbel _⟩
          case measure => simp [intOf]; omega
      · obtain rfl : k = out.size := by omega
        go_wp2_with fail
        go_ret
        exact ⟨by simp, hbel⟩
end Go.Proofs.YtpldkfbglfcidaaDoor
