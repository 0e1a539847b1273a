/- SignalRead of the reference, walked. -/
import Derived.Test.YtpldkfbglfcidaaDoorL8
namespace Go.Proofs.YtpldkfbglfcidaaDoor
set_option linter.unusedVariables false
set_option linter.unusedSimpArgs false
open Go.RowKit
theorem okTo_bad {qs : List (List UInt8)} {i : Nat} {p : List UInt8} (hi : qs[i]? = some p) (h : letV p = 0) : okTo qs = false := by
  unfold okTo
  have : qs.all (fun p => letV p != 0) = false := by
    rw [List.all_eq_false]
    exact ⟨p, List.mem_of_getElem? hi, by simp [h]⟩
  rw [this, Bool.and_false]
theorem okTo_long {qs : List (List UInt8)} (h : 12 < qs.length) : okTo qs = false := by
  unfold okTo
  rw [decide_eq_false (by omega)]; rfl
theorem okTo_step {qs : List (List UInt8)} {i : Nat} {p : List UInt8} (hi : qs[i]? = some p) (h : letV p ≠ 0) (hl : qs.length ≤ 12) (ho : okTo (qs.take i) = true) : okTo (qs.take (i + 1)) = true ∧ txtTo (qs.take (i + 1)) = txtTo (qs.take i) ++ [UInt8.ofNat (letV p)] := by
  have hlt : i < qs.length := by
    rcases Nat.lt_or_ge i qs.length with h1 | h1
    · exact h1
    · rw [List.getElem?_eq_none h1] at hi; cases hi
  have e : qs.take (i + 1) = qs.take i ++ [p] := by rw [List.take_add_one, hi]; rfl
  rw [e]
  refine ⟨?_, txtTo_snoc _ _⟩
  rw [okTo_snoc, ho, decide_eq_true (by rw [List.length_take]; omega)]
  simp [h]
theorem letS_no {l : List UInt8} (h : letV l = 0) : letS l = ⟨#[]⟩ := if_pos h
theorem letS_yes {l : List UInt8} (h : letV l ≠ 0) : letS l = ⟨#[UInt8.ofNat (letV l)]⟩ := if_neg h
set_option maxRecDepth 100000 in
set_option maxHeartbeats 1000000 in
theorem specRd (s : ByteArray) (hs : s.size ≤ maxLen) (w : World) : Calls Tryd.prog 32 #[.string s] w (ReadPost s.data.toList w) := by
  have HV := specSv s hs
  have HT := Lib.hid (fun t w => specLet t w)
  cases hv : sgValid s.data.toList with
  | false =>
    have hR : Hid (rdR s.data.toList ⟨#[]⟩ false) := rdR_bad (fun e => by rw [e] at hv; cases hv) hv
    rw [hv] at HV
    have H := Lib.hid HV
    clear HV hv hs
    go_enter Tryd.func32, Tryd.ntmps32
    go_wp2_with fail
    refine (H.out _).mono ?_
    rintro e w1 ⟨rfl, rfl⟩
    go_wp2_with fail
    go_ret2
    exact ⟨_, _, rfl, hR.out, Below.refl _ _⟩
  | true =>
    rw [hv] at HV
    have H := Lib.hid HV
    clear HV
    by_cases h0 : s.size = 0
    · have hl : s.data.toList = [] := List.eq_nil_of_length_eq_zero (by simpa using h0)
      have hR : Hid (rdR s.data.toList ⟨#[]⟩ true) := by rw [hl]; exact rdR_nil
      have he : s.toList.isEmpty = true := by rw [Lib.toList_data, hl]; rfl
      have he2 : s.toList = [] := by rw [Lib.toList_data, hl]
      clear hv hl hs h0
      go_enter Tryd.func32, Tryd.ntmps32
      go_wp2_with fail
      refine (H.out _).mono ?_
      rintro e w1 ⟨rfl, rfl⟩
      go_wp2_with fail
      go_ret2
      exact ⟨_, _, rfl, hR.out, Below.refl _ _⟩
    · have hne : s.data.toList ≠ [] := fun e => h0 (by have := congrArg List.length e; simpa using this)
      have he : s.toList.isEmpty = false := by rw [Lib.toList_data]; cases h : s.data.toList with
        | nil => exact absurd h hne
        | cons a r => rfl
      have h80 : s.size ≤ 80 := by
        unfold sgValid at hv
        simp only [Bool.and_eq_true, decide_eq_true_eq] at hv
        simpa using hv.2
      have HN : Hid (okTo (pieces s.data.toList) = false → rdR s.data.toList ⟨#[]⟩ false) := fun h => rdR_no hne h
      have HY : Hid (okTo (pieces s.data.toList) = true → rdR s.data.toList ⟨(txtTo (pieces s.data.toList)).toArray⟩ true) := fun h => rdR_yes hne hv h
      have HC := Lib.hid (specCt s (by omega))
      have hpl := pieces_len s.data.toList
      rw [show s.data.toList.length = s.size by simp] at hpl
      clear hv hs h0 hne
      go_enter Tryd.func32, Tryd.ntmps32
      go_wp2_with fail
      refine (H.out _).mono ?_
      rintro e w1 ⟨rfl, rfl⟩
      go_wp2_with fail
      refine (HC.out _).mono ?_
      rintro e w1 ⟨g, c, ps, rfl, hown, hps, hb1⟩
      have Hps := Lib.hid hps
      obtain ⟨n, hn⟩ : ∃ n, n = ps.length := ⟨_, rfl⟩
      have hnq : (pieces s.data.toList).length = n := by rw [← hps, hn]; simp
      have Hn := Lib.hid hn
      rw [← hn] at hown ⊢
      rw [hnq] at hpl
      have Hnq := Lib.hid hnq
      clear hps hn hnq
      go_wp2_with fail
      go_loopw [4, 6] (fun o i wr => ∃ k : Nat, k ≤ n ∧ i = .int .i64 k ∧ o = .string ⟨(txtTo ((pieces s.data.toList).take k)).toArray⟩ ∧ Hid (okTo ((pieces s.data.toList).take k) = true) ∧ OwnT wr w.heap.size g n c ps ∧ Below w.heap.size w wr) (fun _ i _ => n - (intOf i).toNat)
      case atStart => exact ⟨0, by omega, rfl, rfl, rfl, hown, hb1⟩
      case round =>
        obtain ⟨k, hk, rfl, rfl, hok, hown, hbel⟩ := hrel
        have hsz := hbel.size
        by_cases hlt : k < n
        · have hlt2 : k < ps.length := by have := Hn.out; omega
          have hcell := hown.cell k ps[k] (List.getElem?_eq_getElem hlt2)
          have hpk : Hid ((pieces s.data.toList)[k]? = some ps[k].data.toList) := by
            show _ = _
            rw [← Hps.out, List.getElem?_map, List.getElem?_eq_getElem hlt2]; rfl
          obtain ⟨p, hp⟩ : ∃ p, p = ps[k] := ⟨_, rfl⟩
          rw [← hp] at hcell hpk
          have hT := HT.out p
          clear hp
          by_cases hz : letV p.data.toList = 0
          · have hR := Lib.hid (HN.out (okTo_bad hpk.out hz))
            rw [letS_no hz] at hT
            replace hT := Lib.hid hT
            clear hz
            go_wp2_with fail
            refine (hT.out _).mono ?_
            rintro e w2 ⟨rfl, hb2⟩
            go_wp2_with fail
            go_ret2
            exact ⟨_, _, rfl, hR.out, hbel.trans (hb2.mono hsz)⟩
          · rw [letS_yes hz] at hT
            by_cases h12 : 12 < n
            · have hR := Lib.hid (HN.out (okTo_long (by rw [Hnq.out]; exact h12)))
              replace hT := Lib.hid hT
              clear hz
              go_wp2_with fail
              refine (hT.out _).mono ?_
              rintro e w2 ⟨rfl, hb2⟩
              go_wp2_with fail
              go_ret2
              exact ⟨_, _, rfl, hR.out, hbel.trans (hb2.mono hsz)⟩
            · obtain ⟨hst, htx⟩ := okTo_step hpk.out hz (by rw [Hnq.out]; omega) hok.out
              replace hT := Lib.hid hT
              replace hst := Lib.hid hst
              replace htx := Lib.hid htx
              have htl : (txtTo ((pieces s.data.toList).take k)).length ≤ 12 := by rw [txtTo_len, List.length_take]; omega
              clear hz
              go_wp2_with fail
              refine (hT.out _).mono ?_
              rintro e w2 ⟨rfl, hb2⟩
              go_wp2_with fail
              go_roundw
              case rel => exact ⟨k + 1, by omega, by go_num, by rw [htx.out]; exact congrArg Value.string (str_one _ _), hst.out, hown.below hb2, hbel.trans (hb2.mono hsz)⟩
              case measure => simp [intOf]; omega
        · obtain rfl : k = n := by omega
          have htk : (pieces s.data.toList).take k = pieces s.data.toList := List.take_of_length_le (by rw [Hnq.out]; exact Nat.le_refl _)
          rw [htk] at hok ⊢
          have hR := Lib.hid (HY.out hok.out)
          clear htk
          go_wp2_with fail
          go_ret2
          exact ⟨_, _, rfl, hR.out, hbel⟩
end Go.Proofs.YtpldkfbglfcidaaDoor
