/- The program's CutOf, walked. -/
import Derived.Test.YtkcfclkpbmeaiaaCutW2
import Derived.Test.YtkcfclkpbmeaiaaAll
namespace Go.Proofs.Ytkcfclkpbmeaiaa
set_option linter.unusedVariables false
set_option linter.unusedSimpArgs false
open Go.RowKit
theorem or_zero (v : Nat) (h : v < 64) : bits .or .i64 (v : Int) 0 = (v : Int) := by
  have := i64_or_nat v 0 (by omega) (by omega)
  simpa using this
theorem pow_le6 {k : Nat} (hk : k < 6) : 2 ^ k ≤ 32 := Nat.le_trans (Nat.pow_le_pow_right (by omega) (by omega : k ≤ 5)) (by decide)
theorem or_pow (v k : Nat) (hk : k < 6) (h : v < 2 ^ k) : bits .or .i64 (v : Int) (wrap64 (2 ^ k)) = ((2 ^ k * 1 + v : Nat) : Int) := by
  have h6 := pow_le6 hk
  have e : (2 : Int) ^ k = ((2 ^ k : Nat) : Int) := by simp
  rw [e, IntWalk.wrap64_in _ ⟨by omega, by omega⟩, i64_or_nat v (2 ^ k) (by omega) (by omega), Nat.two_pow_add_eq_or_of_lt h 1, Nat.mul_one, Nat.or_comm]
set_option maxRecDepth 100000 in
theorem iCutOf (n : Int) (A : Option Addr) (c : Nat) (L : List Ln) (p q : Int) (F : Option Addr) (cf : Nat) (s : List Int) (hL1 : L.length ≤ 1048576) (hf1 : s.length ≤ 1048576) (w : World) (hL : Lns w w.heap.size A L) (hF : Iv w 0 w.heap.size F s) :
    Calls Try.prog 24 #[.int .i64 n, .slice A L.length c, .int .i64 p, .int .i64 q, .slice F s.length cf] w (CutPost n L p q s w) := by
  have hT := iTwo n A c L p q hL1 w hL
  cases h1 : twoOk n L p q with
  | false =>
    rw [h1] at hT
    have HP : Hid (¬ CutP n L p q s) := fun h => by rw [h.1] at h1; cases h1
    have HT := Lib.hid hT
    clear h1 hT
    go_enter Try.func24, Try.ntmps24
    go_wp2_with fail
    refine HT.out.mono ?_
    rintro e w1 ⟨rfl, hb⟩
    go_wp2_with fail
    go_ret
    exact ⟨-1, rfl, .inr ⟨HP.out, rfl⟩, hb⟩
  | true =>
    obtain ⟨h2, hp0, hp1, hq0, hq1, hpq⟩ := twoOk_n h1
    obtain ⟨n2, n6, hlen10, hin⟩ := netOk_n h2
    rw [h1] at hT
    have HT := Lib.hid hT
    have H1 := Lib.hid h1
    clear hT h1 h2
    obtain ⟨nn, rfl⟩ := Int.eq_ofNat_of_zero_le (by omega : 0 ≤ n)
    obtain ⟨p, rfl⟩ := Int.eq_ofNat_of_zero_le hp0
    obtain ⟨q, rfl⟩ := Int.eq_ofNat_of_zero_le hq0
    rw [Int.toNat_natCast] at hin
    have HC := Lib.hid (fun m hm w hi hiw hL => iCut A c L m nn (by omega) hin hlen10 hm w hi hiw hL)
    have HA := Lib.hid (fun w h => allWithin_any F cf s hf1 0 1 0 w h)
    have HEQ : Hid (cutVal (sideB (bitsOf (sideF s) nn)) L = cutVal (sideF s) L) := cutVal_bits hin _
    have HLT : Hid (∀ k, k ≤ nn → bitsOf (sideF s) k < 64) := fun k hk => Nat.lt_of_lt_of_le (bitsOf_lt (sideF s) k) (Nat.le_trans (Nat.pow_le_pow_right (by omega) (by omega : k ≤ 6)) (by decide))
    obtain ⟨m, hm⟩ : ∃ m, m = L.length := ⟨_, rfl⟩
    obtain ⟨m2, hm2⟩ : ∃ m, m = s.length := ⟨_, rfl⟩
    have Hm := Lib.hid hm
    have Hm2 := Lib.hid hm2
    rw [← hm] at hL1 hlen10 HT HC ⊢
    rw [← hm2] at hf1 HA ⊢
    clear hm hm2
    by_cases hmm : m2 = nn
    · subst hmm
      go_enter Try.func24, Try.ntmps24
      go_wp2_with fail
      refine HT.out.mono ?_
      rintro e w1 ⟨rfl, hb⟩
      have hF' := (hF.below hb (Nat.le_refl _)).more (Nat.le_refl _) hb.size
      go_wp2_with fail
      refine (HA.out _ hF').mono ?_
      rintro e w2 ⟨r, rfl, hr, hb2⟩
      have hF2 := hF'.below hb2 (Nat.le_refl _)
      have hL2 := (hL.below hb).below (hb2.mono hb.size)
      have hb12 := hb.trans (hb2.mono hb.size)
      replace hr := Lib.hid hr
      clear hb hb2 hF'
      cases r with
      | false =>
        have HP : Hid (¬ CutP m2 L p q s) := fun h => by have := hr.out.2 h.2.2.1; cases this
        clear hr
        go_wp2_with fail
        go_ret
        exact ⟨-1, rfl, .inr ⟨HP.out, rfl⟩, hb12⟩
      | true =>
        have hbits := hr.out.1 rfl
        clear hr
        have hget : ∀ j : Nat, j < m2 → s[j]? = some (s.getD j 0) := fun j hj => getD_int (by rw [← Hm2.out]; exact hj)
        have hpk : p < m2 := by omega
        have hqk : q < m2 := by omega
        obtain ⟨b', off', rfl, _, hb', hc'⟩ := hF2 (by rw [← Hm2.out]; omega)
        have cp := hc' p _ (hget p hpk)
        have cq := hc' q _ (hget q hqk)
        have Hbits := Lib.hid hbits
        have Hget := Lib.hid hget
        have Hc' := Lib.hid hc'
        clear hbits hget hc'
        obtain ⟨x, hx⟩ : ∃ x, x = s.getD p 0 := ⟨_, rfl⟩
        obtain ⟨y, hy⟩ : ∃ y, y = s.getD q 0 := ⟨_, rfl⟩
        rw [← hx] at cp
        rw [← hy] at cq
        replace hx := Lib.hid hx
        replace hy := Lib.hid hy
        by_cases ex : x = 1
        · have t1 := bT ex
          have t2 := nF ex
          by_cases ey : y = 0
          · have t3 := bT ey
            have t4 := nF ey
            have HP : Hid (CutP m2 L p q s) := ⟨H1.out, by rw [← Hm2.out], Hbits.out, by rw [Int.toNat_natCast, ← hx.out]; exact ex, by rw [Int.toNat_natCast, ← hy.out]; exact ey⟩
            clear ex ey
            go_wp2_with fail
            clear cp cq t1 t2 t3 t4
            go_loop [11, 12, 13, 47] (fun t _ _ i => ∃ k : Nat, k ≤ m2 ∧ i = .int .i64 k ∧ t = .int .i64 (bitsOf (sideF s) k : Nat)) (fun _ _ _ i => m2 - (intOf i).toNat)
            case atStart => exact ⟨0, by omega, rfl, by simp [bitsOf]⟩
            case round =>
              obtain ⟨k, hk, rfl, rfl⟩ := hrel
              by_cases hlt : k < m2
              · have cu := Hc'.out k _ (Hget.out k hlt)
                have bu := Hbits.out _ (List.mem_of_getElem? (Hget.out k hlt))
                have hbl := bitsOf_lt (sideF s) k
                have hl64 := HLT.out k hk
                have hst : bitsOf (sideF s) (k + 1) = 2 ^ k * (if (s.getD k 0 == 1) = true then 1 else 0) + bitsOf (sideF s) k := rfl
                obtain ⟨u, hu⟩ : ∃ u, u = s.getD k 0 := ⟨_, rfl⟩
                obtain ⟨v, hv⟩ : ∃ v, v = bitsOf (sideF s) k := ⟨_, rfl⟩
                rw [← hu] at cu bu hst
                rw [← hv] at hbl hst hl64 ⊢
                have hk6 : k < 6 := by omega
                clear hu hv
                rcases (by omega : u = 0 ∨ u = 1) with rfl | rfl
                · replace hst := Lib.hid hst
                  have hor := or_zero v hl64
                  go_wp2_with fail
                  go_round
                  case rel => exact ⟨k + 1, by omega, by go_num, by rw [hst.out]; exact congrArg (fun x : Nat => Value.int .i64 (x : Int)) (by simp)⟩
                  case measure => simp [intOf]; omega
                · replace hst := Lib.hid hst
                  have hor := or_pow v k hk6 hbl
                  go_wp2_with fail
                  go_round
                  case rel => exact ⟨k + 1, by omega, by go_num, by rw [hst.out]; exact congrArg (Value.int .i64) (by simp)⟩
                  case measure => simp [intOf]; omega
              · obtain rfl : k = m2 := by omega
                have hl64 := HLT.out k (Nat.le_refl _)
                have hc := HC.out (bitsOf (sideF s) k) (by omega)
                rw [HEQ.out] at hc
                replace hc := Lib.hid hc
                obtain ⟨v, hv⟩ : ∃ v, v = bitsOf (sideF s) k := ⟨_, rfl⟩
                rw [← hv] at hc ⊢
                clear hv
                go_wp2_with fail
                refine (hc.out _ _ (by have := hb12.size; omega) hL2).mono ?_
                rintro e w3 ⟨rfl, hb3⟩
                go_wp2_with fail
                go_ret
                exact ⟨_, rfl, .inl ⟨HP.out, rfl⟩, hb12.trans (hb3.mono hb12.size)⟩
          · have t3 := bF ey
            have t4 := nT ey
            have HP : Hid (¬ CutP m2 L p q s) := fun h => ey (by have := h.2.2.2.2; rw [Int.toNat_natCast, ← hy.out] at this; exact this)
            clear ex ey
            go_wp2_with fail
            go_ret
            exact ⟨-1, rfl, .inr ⟨HP.out, rfl⟩, hb12⟩
        · have t1 := bF ex
          have t2 := nT ex
          have HP : Hid (¬ CutP m2 L p q s) := fun h => ex (by have := h.2.2.2.1; rw [Int.toNat_natCast, ← hx.out] at this; exact this)
          clear ex
          go_wp2_with fail
          go_ret
          exact ⟨-1, rfl, .inr ⟨HP.out, rfl⟩, hb12⟩
    · have hne : ((m2 : Int) != (nn : Int)) = true := nT (by omega)
      have hne2 : ((m2 : Int) == (nn : Int)) = false := bF (by omega)
      have HP : Hid (¬ CutP nn L p q s) := fun h => hmm (by have := h.2.1; rw [← Hm2.out] at this; omega)
      clear hmm
      go_enter Try.func24, Try.ntmps24
      go_wp2_with fail
      refine HT.out.mono ?_
      rintro e w1 ⟨rfl, hb⟩
      go_wp2_with fail
      go_ret
      exact ⟨-1, rfl, .inr ⟨HP.out, rfl⟩, hb⟩
end Go.Proofs.Ytkcfclkpbmeaiaa
