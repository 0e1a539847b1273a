/- The law FnJobsDays, walked. -/
import Derived.Test.YtglncadfmomamaaPb
import Derived.Test.YtglncadfmomamaaLoLaw
import Derived.Test.YtglncadfmomamaaHelp
import Derived.Deep.RegionHeld3
namespace Go.Proofs.Ytglncadfmomamaa
set_option linter.unusedVariables false
set_option linter.unusedSimpArgs false
open Go.RowKit
theorem jDays_append : ∀ (a b : List Jb), jDays (a ++ b) = jDays a + jDays b
  | [], b => by simp [jDays]
  | x :: a, b => by rw [List.cons_append, jDays, jDays, jDays_append a b]; omega
theorem jobsOk_part {L : List Jb} (h : jobsOk L = true) (k : Nat) : jobsOk (L.take k) = true ∧ jobsOk (L.drop k) = true := by
  unfold jobsOk at h ⊢
  simp only [Bool.and_eq_true, List.all_eq_true, decide_eq_true_eq] at h ⊢
  refine ⟨⟨fun x hx => h.1 x (List.mem_of_mem_take hx), ?_⟩, ⟨fun x hx => h.1 x (List.mem_of_mem_drop hx), ?_⟩⟩
  · rw [List.length_take]; omega
  · rw [List.length_drop]; omega
theorem daysV_part {L : List Jb} (h : jobsOk L = true) (k : Nat) : daysV (L.take k) + daysV (L.drop k) = daysV L := by
  unfold daysV
  rw [if_pos h, if_pos (jobsOk_part h k).1, if_pos (jobsOk_part h k).2, ← jDays_append, List.take_append_drop]
theorem fair_plan {L : List Jb} (h : jobsOk L = true) {m : Nat} (hm : jDays L = m) : planV (List.replicate m 111) L = decide (m ≤ 30) := by
  have h1 : fcAhead (List.replicate m 111) (List.replicate m (111 : UInt8)).length = m := by
    unfold fcAhead cntO
    rw [List.take_length, List.countP_replicate]
    simp
  unfold planV planOk fcValid fcOk
  rw [h, h1, hm]
  simp
theorem rep_snoc (k : Nat) : (⟨Array.replicate k 111⟩ : ByteArray) ++ ⟨#[111]⟩ = ⟨Array.replicate (k + 1) 111⟩ := by
  ext1
  rw [ByteArray.data_append]
  show Array.replicate k 111 ++ #[111] = _
  rw [Array.replicate_succ]
  simp
theorem Jbs.takeJ {w : World} {B : Nat} {A : Option Addr} {L : List Jb} (h : Jbs w B A L) (k : Nat) : Jbs w B A (L.take k) := fun h0 => by
  rw [List.length_take] at h0
  obtain ⟨b, off, rfl, hb, hc⟩ := h (by omega)
  refine ⟨b, off, rfl, hb, fun i l hl => ?_⟩
  rw [List.getElem?_take] at hl
  split at hl
  · exact hc i l hl
  · cases hl
theorem Jbs.dropJ {w : World} {B b off : Nat} {L : List Jb} (h : Jbs w B (some ⟨b, off, none⟩) L) (k : Nat) : Jbs w B (some ⟨b, off + k * 2, none⟩) (L.drop k) := fun h0 => by
  rw [List.length_drop] at h0
  obtain ⟨b', off', e, hb, hc⟩ := h (by omega)
  cases e
  refine ⟨b, off + k * 2, rfl, hb, fun i l hl => ?_⟩
  rw [List.getElem?_drop] at hl
  have := hc (k + i) l hl
  rw [show off + k * 2 + i * 2 = off + (k + i) * 2 by omega]
  exact this
set_option maxHeartbeats 4000000 in
set_option maxRecDepth 100000 in
theorem law_JobsDays (a0 : Option Addr) (len0 cap0 : Nat) (z0 : List Int) (a1 : Option Addr) (len1 cap1 : Nat) (z1 : List Int) (w : World) (w0 : ArgB w a0 len0 cap0 z0) (w1 : ArgB w a1 len1 cap1 z1) :
    Calls Try.prog 7 #[.slice a0 len0 cap0, .slice a1 len1 cap1] w fun e w' => e = .returned (.bool true) ∧ Below w.heap.size w w' := by
  obtain ⟨hl0, hm0, hby0⟩ := w0.byt
  obtain ⟨hl1, hm1, -⟩ := w1.byt
  have hm0' := hm0
  have hm1' := hm1
  unfold maxLen at hm0' hm1'
  by_cases h0 : 1048576 < len0
  · go_enter Try.func7, Try.ntmps7
    go_wp2_with fail
    go_ret
    exact ⟨rfl, Below.refl _ _⟩
  by_cases h1 : 1048576 < len1
  · go_enter Try.func7, Try.ntmps7
    go_wp2_with fail
    go_ret
    exact ⟨rfl, Below.refl _ _⟩
  have hdr := Lib.hid (drawJobsDays a0 len0 cap0 hl0 hm0 _ hby0)
  go_enter Try.func7, Try.ntmps7
  go_wp2_with fail
  refine hdr.out.mono ?_
  rintro e w2 ⟨A, c, J, rfl, hJ6, ⟨hJc, hcm⟩, hJ, hbw⟩
  clear hdr hby0 hm0 hm1
  have HJ : Hid (∀ w', Below w2.heap.size w2 w' → Jbs w' w'.heap.size A J) := fun w' h => (hJ.below h).more h.size
  have H2 := Lib.hid (fun w' (h : Below w2.heap.size w2 w') => implJobsDays A c J (by omega) w' (HJ.out w' h))
  have H3 := Lib.hid (specJobsDays A c J (by omega))
  have hbd := daysV_bd J
  obtain ⟨dv, hdv⟩ : ∃ d, d = daysV J := ⟨_, rfl⟩
  obtain ⟨n, hn⟩ : ∃ n, n = J.length := ⟨_, rfl⟩
  have Hdv := Lib.hid hdv
  have Hn := Lib.hid hn
  rw [← hdv, ← hn] at H2 H3
  rw [← hdv] at hbd
  rw [← hn] at hJ6 hJc ⊢
  clear hdv hn hJ
  unfold maxLen at hcm
  have hb := Below.refl w2.heap.size w2
  go_wp2_with fail
  refine (H2.out _ hb).mono ?_
  rintro e w3 ⟨rfl, hb3⟩
  replace hb := hb.trans (hb3.mono hb.size)
  clear hb3
  go_wp2_with fail
  refine (H3.out _ (HJ.out _ hb)).mono ?_
  rintro e w4 ⟨rfl, rfl⟩
  by_cases hneg : dv < 0
  · go_wp2_with fail
    go_ret
    exact ⟨by simp, hbw.trans (hb.mono hbw.size)⟩
  obtain ⟨m, rfl⟩ := Int.eq_ofNat_of_zero_le (show 0 ≤ dv by omega)
  have hok : jobsOk J = true := by
    have := Hdv.out
    unfold daysV at this
    split at this
    · assumption
    · omega
  have hjd : jDays J = m := by have := Hdv.out; unfold daysV at this; rw [if_pos hok] at this; exact this.symm
  have hfp := fair_plan hok hjd
  have hpart := fun k => daysV_part hok k
  rw [← Hdv.out] at hpart
  replace hpart := Lib.hid hpart
  replace hfp := Lib.hid hfp
  have hm54 : m ≤ 54 := by omega
  obtain ⟨k, hk⟩ : ∃ k, k = len1 % (n + 1) := ⟨_, rfl⟩
  have hkn : k ≤ n := by have := Nat.mod_lt len1 (show 0 < n + 1 by omega); omega
  have hkv : (len1 : Int) % ((n : Int) + 1) = (k : Int) := by rw [hk]; push_cast; rfl
  clear hjd hk
  go_wp2_with fail
  go_loopw [9, 10] (fun s i wr => ∃ j : Nat, j ≤ m ∧ i = .int .i64 j ∧ s = .string ⟨Array.replicate j 111⟩ ∧ wr = w3) (fun _ i _ => m - (intOf i).toNat)
  case atStart => exact ⟨0, by omega, rfl, by simp, rfl⟩
  case round =>
    obtain ⟨j, hj, rfl, rfl, rfl⟩ := hrel
    by_cases hlt : j < m
    · have hsz : (⟨Array.replicate j 111⟩ : ByteArray).size = j := by show (Array.replicate j (111 : UInt8)).size = j; simp
      have hsn := Lib.hid (rep_snoc j)
      go_wp2_with fail
      go_roundw
      case rel => exact ⟨j + 1, by omega, by go_num, by rw [hsn.out], trivial⟩
      case measure => simp [intOf]; omega
    · obtain rfl : j = m := by omega
      have hsz : (⟨Array.replicate j 111⟩ : ByteArray).size ≤ maxLen := by show (Array.replicate j (111 : UInt8)).size ≤ maxLen; unfold maxLen; simp; omega
      have hfl : (⟨Array.replicate j 111⟩ : ByteArray).data.toList = List.replicate j 111 := by simp
      have hib := implBest ⟨Array.replicate j 111⟩ A c J hsz (by rw [← Hn.out]; omega) _ (HJ.out _ hb)
      rw [← Hn.out] at hib
      replace hib := Lib.hid hib
      clear hsz
      go_wp2_with fail
      refine hib.out.mono ?_
      rintro e w5 ⟨A5, c5, c0, xs, ok, rfl, hR, -, hb5⟩
      obtain rfl : ok = decide (j ≤ 30) := by rw [hR.1, hfl]; exact hfp.out
      replace hb := hb.trans (hb5.mono hb.size)
      clear hR hb5 hib hfl hfp
      have hjd : Hid (∀ w', Below w5.drew.heap.size w5.drew w' → Below w.heap.size w w') := fun w' h => hbw.trans ((hb.trans ((show Below w5.heap.size w5 w' from ⟨h.os, h.tape, h.output, h.size, h.block⟩).mono hb.size)).mono hbw.size)
      by_cases hn0 : n = 0
      · have hJ0 : J = [] := List.length_eq_zero_iff.1 (by rw [← Hn.out]; exact hn0)
        have HZ : Hid (∀ A' c' w', Calls Try.prog 22 #[.slice A' 0 c'] w' fun e w'' => e = .returned (.int .i64 0) ∧ Below w'.heap.size w' w'') := fun A' c' w' => implJobsDays A' c' [] (by simp) w' (fun h => by simp at h)
        have hj0 : j = 0 := by have := Hdv.out; rw [hJ0] at this; have e : daysV [] = 0 := rfl; rw [e] at this; omega
        obtain rfl : k = 0 := by omega
        subst hn0 hj0
        clear hJ0
        cases A with
        | none =>
          go_wp2_with fail
          go_region_held3 (fun _ => True) (exact trivial) (first
            | (go_at_call 22; refine (HZ.out _ _ wA).mono ?_; rintro e wB ⟨rfl, hbB⟩; have hfin := hjd.out _ (hbA.trans (hbB.mono hbA.size)))
            | (go_at_call 22; refine (HZ.out _ _ _).mono ?_; rintro e wA ⟨rfl, hbA⟩))
          go_simp
          go_wp2_with fail
          go_ret
          exact ⟨by simp [show IntKind.i64.wrap 0 = 0 from rfl], hfin⟩
        | some a =>
          go_wp2_with fail
          go_region_held3 (fun _ => True) (exact trivial) (first
            | (go_at_call 22; refine (HZ.out _ _ wA).mono ?_; rintro e wB ⟨rfl, hbB⟩; have hfin := hjd.out _ (hbA.trans (hbB.mono hbA.size)))
            | (go_at_call 22; refine (HZ.out _ _ _).mono ?_; rintro e wA ⟨rfl, hbA⟩))
          go_simp
          go_wp2_with fail
          go_ret
          exact ⟨by simp [show IntKind.i64.wrap 0 = 0 from rfl], hfin⟩
      · obtain ⟨b, off, rfl, hbl, -⟩ := (HJ.out _ hb) (by rw [← Hn.out]; omega)
        have HT : Hid (∀ c' w', Below w2.heap.size w2 w' → Calls Try.prog 22 #[.slice (some ⟨b, off, none⟩) k c'] w' fun e w'' => e = .returned (.int .i64 (daysV (J.take k))) ∧ Below w'.heap.size w' w'') := fun c' w' h => by
          have := implJobsDays (some ⟨b, off, none⟩) c' (J.take k) (by rw [List.length_take]; have := Hn.out; omega) w' ((HJ.out _ h).takeJ k)
          rw [show (J.take k).length = k by rw [List.length_take, ← Hn.out]; omega] at this
          exact this
        have HD : Hid (∀ A' c' w', (A' = some ⟨b, off + k * 2, none⟩ ∨ n = k) → Below w2.heap.size w2 w' → Calls Try.prog 22 #[.slice A' (n - k) c'] w' fun e w'' => e = .returned (.int .i64 (daysV (J.drop k))) ∧ Below w'.heap.size w' w'') := fun A' c' w' hA h => by
          have := implJobsDays A' c' (J.drop k) (by rw [List.length_drop]; have := Hn.out; omega) w' (by
            rcases hA with rfl | h1
            · exact (HJ.out _ h).dropJ k
            · intro h0; rw [List.length_drop] at h0; have := Hn.out; omega)
          rw [show (J.drop k).length = n - k by rw [List.length_drop, ← Hn.out]] at this
          exact this
        have hsum := hpart.out k
        have hb1 := daysV_bd (J.take k)
        have hb2 := daysV_bd (J.drop k)
        obtain ⟨x, hx⟩ : ∃ x, x = daysV (J.take k) := ⟨_, rfl⟩
        obtain ⟨y, hy⟩ : ∃ y, y = daysV (J.drop k) := ⟨_, rfl⟩
        rw [← hx] at HT hsum hb1
        rw [← hy] at HD hsum hb2
        have hwr : IntKind.i64.wrap (x + y) = j := by rw [hsum]; exact IntWalk.i64_in _ (by omega)
        have hb5d : Below w2.heap.size w2 w5.drew := below_drewN hb 1
        clear hx hy hsum
        have hk0 : (0 : Int) ≤ (k : Int) := by omega
        have hkn1 : (k : Int) ≤ (n : Int) := by omega
        have hkc1 : (k : Int) ≤ (c : Int) := by omega
        have hnc1 : (n : Int) ≤ (c : Int) := by omega
        have hkc : k ≤ c := by omega
        rcases (by omega : c = k ∨ k < c) with hck | hck
        · have hnk : n = k := by omega
          have HDn := Lib.hid hnk
          clear hnk
          have hne' : (c : Int) = (k : Int) := by omega
          go_wp2_with fail
          go_region_held3 (fun _ => True) (exact trivial) (first
            | (go_at_call 22; refine (HD.out _ _ _ (Or.inr HDn.out) (hb5d.trans (hbA.mono hb5d.size))).mono ?_; rintro e wB ⟨rfl, hbB⟩; have hfin := hjd.out _ (hbA.trans (hbB.mono hbA.size)))
            | (go_at_call 22; refine (HT.out _ _ hb5d).mono ?_; rintro e wA ⟨rfl, hbA⟩))
          go_simp
          go_wp2_with fail
          go_ret
          exact ⟨by rw [show decide ((j : Int) ≤ 30) = decide (j ≤ 30) from decide_eq_decide.2 (by omega)]; simp, hfin⟩
        · have hne : ¬ c = k := by omega
          have hne' : ¬ (c : Int) = (k : Int) := by omega
          go_wp2_with fail
          go_region_held3 (fun _ => True) (exact trivial) (first
            | (go_at_call 22; refine (HD.out _ _ _ (Or.inl rfl) (hb5d.trans (hbA.mono hb5d.size))).mono ?_; rintro e wB ⟨rfl, hbB⟩; have hfin := hjd.out _ (hbA.trans (hbB.mono hbA.size)))
            | (go_at_call 22; refine (HT.out _ _ hb5d).mono ?_; rintro e wA ⟨rfl, hbA⟩))
          go_simp
          go_wp2_with fail
          go_ret
          exact ⟨by rw [show decide ((j : Int) ≤ 30) = decide (j ≤ 30) from decide_eq_decide.2 (by omega)]; simp, hfin⟩
end Go.Proofs.Ytglncadfmomamaa
