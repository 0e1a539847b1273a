/- The law FnWeakest, walked. -/
import Derived.Test.YtkcfclkpbmeaiaaLawQ
import Derived.Test.YtkcfclkpbmeaiaaTwo
import Derived.Test.YtkcfclkpbmeaiaaHelp
import Derived.Test.YtkcfclkpbmeaiaaNeed
import Derived.Test.YtkcfclkpbmeaiaaWeak
import Derived.Test.YtkcfclkpbmeaiaaMarkH
namespace Go.Proofs.Ytkcfclkpbmeaiaa
set_option linter.unusedVariables false
set_option linter.unusedSimpArgs false
open Go.RowKit
set_option maxRecDepth 100000 in
theorem law_Weakest (a0 : Option Addr) (len0 cap0 : Nat) (z0 : List Int) (w : World) (w0 : ArgB w a0 len0 cap0 z0) :
    Calls Try.prog 12 #[.slice a0 len0 cap0] w fun e w' => e = .returned (.bool true) ∧ Below w.heap.size w w' := by
  obtain ⟨hl0, hm0, hby0⟩ := w0.byt
  have hm0' := hm0
  unfold maxLen at hm0'
  by_cases h0 : 1048576 < len0
  · go_enter Try.func12, Try.ntmps12
    go_wp2_with fail
    go_ret
    exact ⟨rfl, Below.refl _ _⟩
  have hdr := Lib.hid (drawNetWeakest a0 len0 cap0 hl0 hm0 _ hby0)
  go_enter Try.func12, Try.ntmps12
  go_wp2_with fail
  refine hdr.out.mono ?_
  rintro e w1 ⟨n, A, c, L, p, q, rfl, hn2, hn5, hL7, hp0, hp5, hq0, hq5, hoL, hbw⟩
  have hcc : L.length ≤ c ∧ c ≤ maxLen := by
    obtain ⟨A0, c0, e0, h1, h2⟩ := hoL.form
    injection e0 with _ _ e0
    subst e0
    exact ⟨h1, h2⟩
  replace hcc := Lib.hid hcc
  have hL : Hid (Lns w1 w1.heap.size A L) := hoL.lns
  have hL1 : L.length ≤ 1048576 := by omega
  have hb := Below.refl w1.heap.size w1
  clear hdr hoL hby0 hm0
  go_wp2_with fail
  refine (iWeak n A c L p q hL1 hcc.out.1 hcc.out.2 _ ((hL.out.below hb).more hb.size)).mono ?_
  rintro e w2 ⟨r, ok, rfl, hR, hb2⟩
  replace hb := hb.trans (hb2.mono hb.size)
  clear hb2
  replace hR := Lib.hid hR
  go_wp2_with fail
  refine (sWeak n A c L p q hL1 hcc.out.1 _ ((hL.out.below hb).more hb.size)).mono ?_
  rintro e w3 ⟨r', ok', rfl, hR', hb3⟩
  replace hb := hb.trans (hb3.mono hb.size)
  clear hb3
  obtain rfl : ok' = ok := hR'.1.trans hR.out.1.symm
  obtain rfl : r' = r := hR'.2.trans hR.out.2.symm
  clear hR'
  cases ok' with
  | false =>
    go_wp2_with fail
    go_ret
    exact ⟨rfl, hbw.trans (hb.mono hbw.size)⟩
  | true =>
    have hwk : weakOk n L p q = true := hR.out.1.symm
    have hwk' := hwk
    unfold weakOk at hwk'
    rw [Bool.and_eq_true, decide_eq_true_eq] at hwk'
    obtain ⟨h2, h0⟩ := hwk'
    obtain ⟨m, hm, hml, hle, hlt⟩ := weak_is (n := n) (p := p) (q := q) h0
    obtain rfl : r' = (m : Int) := by rw [hR.out.2, if_pos hwk, ← hm]
    have hnet := (twoOk_n h2).1
    have hwo : ∀ k : Nat, k < L.length → woutOk n L k = true := fun k hk => by rw [woutOk, hnet, inB_iff.2 (by omega)]; rfl
    have HW : Hid (∀ (k : Nat) M ok, k < L.length → WoutR n L k M ok → M = L.eraseIdx k ∧ ok = true) := fun k M ok hk h => by
      obtain ⟨h1, h3⟩ := h
      rw [h1, h3, woutV, hwo k hk]
      exact ⟨by rw [if_pos rfl, Int.toNat_natCast], rfl⟩
    have hneed := Lib.hid (fun h => weak_need h2 hml hle h)
    have H2 := Lib.hid h2
    have Hle := Lib.hid hle
    have Hlt := Lib.hid hlt
    have HNW := Lib.hid (fun (k : Nat) w hL => iNetWithout n A c L k hL1 w hL hcc.out.1 hcc.out.2)
    have HTM := Lib.hid (fun (k : Nat) (M : List Ln) (hM : M = L.eraseIdx k) A' c' w hL => iTrafficMost n A' c' M p q (by rw [hM]; have := List.length_eraseIdx_le L k; omega) w hL)
    have HND := Lib.hid (fun w hL => iNeeded n A c L p q hL1 hcc.out.1 hcc.out.2 w hL)
    have hLb := Lib.hid (fun (w' : World) (h : Below w1.heap.size w1 w') => ((hL.out.below h).more h.size))
    obtain ⟨mm, hmm⟩ : ∃ m, m = L.length := ⟨_, rfl⟩
    rw [← hmm] at hml HW Hle HNW HND ⊢
    have Hmm := Lib.hid hmm
    have hmm7 : mm ≤ 7 := by omega
    clear hwk h2 hwo hle hlt hm hnet h0 hmm hR hL7 hL1
    go_wp2_with fail
    refine (HNW.out m _ (hLb.out _ hb)).mono ?_
    rintro e w4 ⟨Am, cm, M, okm, rfl, hRm, hHm, hb4⟩
    obtain ⟨hM, rfl⟩ := HW.out m M okm hml hRm
    have HM := Lib.hid hM
    clear hM hRm
    replace hb := hb.trans (hb4.mono hb.size)
    clear hb4
    go_wp2_with fail
    refine (HTM.out m M HM.out Am cm _ hHm.lns).mono ?_
    rintro e w5 ⟨y0, rfl, hy0, hb5⟩
    clear hHm
    replace hb := hb.trans (hb5.mono hb.size)
    clear hb5
    replace hy0 : Hid (y0 = mostV n (L.eraseIdx m) p q) := by show _ = _; rw [hy0, HM.out]
    go_wp2_with fail
    go_loopw [14] (fun i wr => ∃ k : Nat, k ≤ mm ∧ i = .int .i64 k ∧ Below w5.heap.size w5 wr) (fun i _ => mm - (intOf i).toNat)
    case atStart => exact ⟨0, by omega, rfl, Below.refl _ _⟩
    case round =>
      obtain ⟨k, hk, rfl, hbel⟩ := hrel
      have hbk := hb.trans (hbel.mono hb.size)
      by_cases hkm : k < mm
      · go_wp2_with fail
        refine (HNW.out k _ (hLb.out _ hbk)).mono ?_
        rintro e w8 ⟨Ak, ck, N, okk, rfl, hRk, hHk, hb8⟩
        obtain ⟨hN, rfl⟩ := HW.out k N okk hkm hRk
        have HN := Lib.hid hN
        replace hbel := hbel.trans (hb8.mono hbel.size)
        clear hN hRk hb8 hbk
        go_wp2_with fail
        refine (HTM.out k N HN.out Ak ck _ hHk.lns).mono ?_
        rintro e w9 ⟨y, rfl, hy, hb9⟩
        replace hbel := hbel.trans (hb9.mono hbel.size)
        have hge : y0 ≤ y := by rw [hy, hy0.out, HN.out]; exact Hle.out k hkm
        have hgt : k < m → y0 < y := fun h => by rw [hy, hy0.out, HN.out]; exact Hlt.out k h
        clear hy hHk hb9
        by_cases hkk : k < m
        · have hgt' := hgt hkk
          have t1 := bF (show y ≠ y0 by omega)
          clear hgt
          go_wp2_with fail
          go_roundw
          case rel => exact ⟨k + 1, by omega, by go_num, hbel⟩
          case measure => simp [intOf]; omega
        · clear hgt
          by_cases hyy : y = y0
          · have t1 := bT hyy
            clear hyy
            go_wp2_with fail
            go_roundw
            case rel => exact ⟨k + 1, by omega, by go_num, hbel⟩
            case measure => simp [intOf]; omega
          · have t1 := bF hyy
            clear hyy
            go_wp2_with fail
            go_roundw
            case rel => exact ⟨k + 1, by omega, by go_num, hbel⟩
            case measure => simp [intOf]; omega
      · obtain rfl : k = mm := by omega
        replace hb := hbk
        go_wp2_with fail
        refine (HND.out _ (hLb.out _ hb)).mono ?_
        rintro e w8 ⟨A3, c3, xs, rfl, hX, hO3, hb8⟩
        replace hb := hb.trans (hb8.mono hb.size)
        have hx1 : xs.length ≤ 1048576 := by
          rw [hX, needV, if_pos H2.out]
          have := need_len n L p q L.length
          have := Hmm.out
          omega
        have hd : xs.length ≠ 0 → decide ((m : Int) ∈ xs) = true := fun h => decide_eq_true (by rw [hX] at h ⊢; exact hneed.out h)
        clear hX hb8
        by_cases h0 : xs.length = 0
        · obtain rfl := List.eq_nil_of_length_eq_zero h0
          go_wp2_with fail
          go_ret
          exact ⟨rfl, hbw.trans (hb.mono hbw.size)⟩
        · have t0 := bF (show ((xs.length : Nat) : Int) ≠ 0 by omega)
          have Hd := Lib.hid (hd h0)
          clear hd h0
          go_wp2_with fail
          refine (hasInt_any A3 c3 _ _ xs m hx1 _ hO3.iv).mono ?_
          rintro e w9 ⟨rfl, d, rfl⟩
          replace hb := below_drewN hb d
          rw [Hd.out]
          go_wp2_with fail
          go_ret
          exact ⟨rfl, hbw.trans (hb.mono hbw.size)⟩
end Go.Proofs.Ytkcfclkpbmeaiaa
