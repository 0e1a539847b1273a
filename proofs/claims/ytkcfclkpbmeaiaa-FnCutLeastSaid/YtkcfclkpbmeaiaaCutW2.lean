/- Cuts told by a side: reference and program walked. -/
import Derived.Test.YtkcfclkpbmeaiaaCutW
namespace Go.Proofs.Ytkcfclkpbmeaiaa
set_option linter.unusedVariables false
set_option linter.unusedSimpArgs false
open Go.RowKit
/-- Is s a side with p and without q? -/
def CutP (n : Int) (L : List Ln) (p q : Int) (s : List Int) : Prop := twoOk n L p q = true ∧ (s.length : Int) = n ∧ (∀ x, x ∈ s → 0 ≤ x ∧ x ≤ 1) ∧ s.getD p.toNat 0 = 1 ∧ s.getD q.toNat 0 = 0
def sideF (s : List Int) : Int → Bool := fun i => s.getD i.toNat 0 == 1
def CutPost (n : Int) (L : List Ln) (p q : Int) (s : List Int) (w : World) (e : Ending) (w' : World) : Prop :=
  ∃ t : Int, e = .returned (.int .i64 t) ∧ ((CutP n L p q s ∧ t = cutVal (sideF s) L) ∨ (¬ CutP n L p q s ∧ t = -1)) ∧ Below w.heap.size w w'
theorem side_ne {x y : Int} (hx : 0 ≤ x ∧ x ≤ 1) (hy : 0 ≤ y ∧ y ≤ 1) : ((x == 1) = (y == 1)) ↔ x = y := by
  constructor
  · intro h
    rw [Bool.eq_iff_iff, beq_iff_eq, beq_iff_eq] at h
    omega
  · rintro rfl; rfl
set_option maxRecDepth 100000 in
theorem sCutOf (n : Int) (A : Option Addr) (c : Nat) (L : List Ln) (p q : Int) (F : Option Addr) (cf : Nat) (s : List Int) (hL1 : L.length ≤ 1048576) (hf1 : s.length ≤ 1048576) (w : World) (hL : Lns w w.heap.size A L) (hF : Iv w 0 w.heap.size F s) :
    Calls Try.prog 25 #[.int .i64 n, .slice A L.length c, .int .i64 p, .int .i64 q, .slice F s.length cf] w (CutPost n L p q s w) := by
  have hT := sTwo n A c L p q hL1 w hL
  cases h1 : twoOk n L p q with
  | false =>
    rw [h1] at hT
    have HP : Hid (¬ CutP n L p q s) := fun h => by rw [h.1] at h1; cases h1
    have HT := Lib.hid hT
    clear h1 hT
    go_enter Try.func25, Try.ntmps25
    go_wp2_with fail
    refine HT.out.mono ?_
    rintro e w1 ⟨rfl, hb⟩
    go_wp2_with fail
    go_ret
    exact ⟨-1, rfl, .inr ⟨HP.out, rfl⟩, hb⟩
  | true =>
    obtain ⟨h2, hp0, hp1, hq0, hq1, hpq⟩ := twoOk_n h1
    obtain ⟨n2, n6, hlen10, hin⟩ := netOk_n h2
    rw [h1] at hT
    have HT := Lib.hid hT
    have H1 := Lib.hid h1
    clear hT h1 h2
    obtain ⟨nn, rfl⟩ := Int.eq_ofNat_of_zero_le (by omega : 0 ≤ n)
    obtain ⟨p, rfl⟩ := Int.eq_ofNat_of_zero_le hp0
    obtain ⟨q, rfl⟩ := Int.eq_ofNat_of_zero_le hq0
    rw [Int.toNat_natCast] at hin
    have HB := Lib.hid (fun k => cutVal_take_bound hin hlen10 (sideF s) k)
    obtain ⟨m, hm⟩ : ∃ m, m = L.length := ⟨_, rfl⟩
    obtain ⟨m2, hm2⟩ : ∃ m, m = s.length := ⟨_, rfl⟩
    have Hm := Lib.hid hm
    have Hm2 := Lib.hid hm2
    rw [← hm] at hL1 hlen10 HT ⊢
    rw [← hm2] at hf1 ⊢
    clear hm hm2
    by_cases hmm : m2 = nn
    · subst hmm
      go_enter Try.func25, Try.ntmps25
      go_wp2_with fail
      refine HT.out.mono ?_
      rintro e w1 ⟨rfl, hb⟩
      go_wp2_with fail
      go_loop [11] (fun i => ∃ k : Nat, k ≤ m2 ∧ i = .int .i64 k ∧ Hid (∀ j x, j < k → s[j]? = some x → 0 ≤ x ∧ x ≤ 1)) (fun i => m2 - (intOf i).toNat)
      case atStart => exact ⟨0, by omega, rfl, fun j x hj => by omega⟩
      case round =>
        obtain ⟨k, hk, rfl, hall⟩ := hrel
        by_cases hlt : k < m2
        · obtain ⟨b', off', rfl, _, hb', hc'⟩ := (hF.below hb (Nat.le_refl _)) (by rw [← Hm2.out]; omega)
          obtain ⟨x, hx⟩ : ∃ x, s[k]? = some x := ⟨s[k]'(by rw [← Hm2.out]; exact hlt), List.getElem?_eq_getElem _⟩
          have c4 := hc' k x hx
          obtain ⟨r, hr⟩ : ∃ r, inB x 0 1 = r := ⟨_, rfl⟩
          replace hr := Lib.hid hr
          replace hx := Lib.hid hx
          clear hc'
          go_wp2_with fail
          refine (l6In_b _ _ _ _ hr.out _).mono ?_
          rintro e w2 ⟨rfl, rfl⟩
          cases r with
          | false =>
            go_wp2_with fail
            go_ret
            refine ⟨-1, rfl, .inr ⟨fun h => ?_, rfl⟩, hb⟩
            have := inB_iff.2 (h.2.2.1 x (List.mem_of_getElem? hx.out))
            rw [hr.out] at this; cases this
          | true =>
            go_wp2_with fail
            go_round
            case rel => exact ⟨k + 1, by omega, by go_num, fun j y hj hy => by
              rcases (by omega : j < k ∨ j = k) with h | rfl
              · exact hall.out j y h hy
              · have e1 := hx.out.symm.trans hy
                injection e1 with e1
                subst e1
                exact inB_iff.1 hr.out⟩
            case measure => simp [intOf]; omega
        · obtain rfl : k = m2 := by omega
          have hbits : ∀ x, x ∈ s → 0 ≤ x ∧ x ≤ 1 := fun x hx => by
            obtain ⟨j, hj, he⟩ := List.getElem_of_mem hx
            exact hall.out j x (by rw [Hm2.out]; exact hj) (by rw [List.getElem?_eq_getElem hj, he])
          have hget : ∀ j : Nat, j < k → s[j]? = some (s.getD j 0) := fun j hj => getD_int (by rw [← Hm2.out]; exact hj)
          have hpk : p < k := by omega
          have hqk : q < k := by omega
          obtain ⟨b', off', rfl, _, hb', hc'⟩ := (hF.below hb (Nat.le_refl _)) (by rw [← Hm2.out]; omega)
          have cp := hc' p _ (hget p hpk)
          have cq := hc' q _ (hget q hqk)
          have Hbits := Lib.hid hbits
          have Hget := Lib.hid hget
          have Hc' := Lib.hid hc'
          clear hbits hget hc'
          obtain ⟨x, hx⟩ : ∃ x, x = s.getD p 0 := ⟨_, rfl⟩
          obtain ⟨y, hy⟩ : ∃ y, y = s.getD q 0 := ⟨_, rfl⟩
          rw [← hx] at cp
          rw [← hy] at cq
          replace hx := Lib.hid hx
          replace hy := Lib.hid hy
          by_cases ex : x = 1
          · have t1 := bT ex
            have t2 := nF ex
            by_cases ey : y = 0
            · have t3 := bT ey
              have t4 := nF ey
              have HP : Hid (CutP k L p q s) := ⟨H1.out, by rw [← Hm2.out], Hbits.out, by rw [Int.toNat_natCast, ← hx.out]; exact ex, by rw [Int.toNat_natCast, ← hy.out]; exact ey⟩
              clear ex ey
              go_wp2_with fail
              obtain ⟨wo, hwo⟩ : ∃ wo : World, wo = w1 := ⟨_, rfl⟩
              rw [← hwo] at hb ⊢
              have HL := Lib.hid (hL.below hb)
              have HC := Hc'
              rw [← hwo] at HC
              clear Hc' hwo cp cq t1 t2 t3 t4
              go_loopw [12, 13] (fun t i wr => ∃ (k' d : Nat), k' ≤ m ∧ i = .int .i64 k' ∧ t = .int .i64 (cutVal (sideF s) (L.take k')) ∧ wr = wo.drewN d) (fun _ i _ => m - (intOf i).toNat)
              case atStart => exact ⟨0, 0, by omega, rfl, by simp [cutVal], rfl⟩
              case round =>
                obtain ⟨k', d, hk', rfl, rfl, rfl⟩ := hrel
                by_cases hlt : k' < m
                · obtain ⟨b, off, rfl, hb', hc⟩ := HL.out (by rw [← Hm.out]; omega)
                  obtain ⟨l, hl⟩ : ∃ l, L[k']? = some l := ⟨L[k']'(by rw [← Hm.out]; exact hlt), List.getElem?_eq_getElem _⟩
                  obtain ⟨c1, c2, c3⟩ := hc k' l hl
                  have hstep := cutVal_take (sideF s) hl
                  have hli := hin l (List.mem_of_getElem? hl)
                  obtain ⟨u, v, ch⟩ := l
                  simp only at c1 c2 c3 hli
                  obtain ⟨hu0, hu1, hv0, hv1, huv, hc1, hc9⟩ := hli
                  obtain ⟨u, rfl⟩ := Int.eq_ofNat_of_zero_le hu0
                  obtain ⟨v, rfl⟩ := Int.eq_ofNat_of_zero_le hv0
                  have huk : u < k := by omega
                  have hvk : v < k := by omega
                  have cu := HC.out u _ (Hget.out u huk)
                  have cv := HC.out v _ (Hget.out v hvk)
                  have bu := Hbits.out _ (List.mem_of_getElem? (Hget.out u huk))
                  have bv := Hbits.out _ (List.mem_of_getElem? (Hget.out v hvk))
                  have hct : cutTerm (sideF s) ⟨(u : Int), (v : Int), ch⟩ = if (s.getD u 0 == 1) = (s.getD v 0 == 1) then 0 else ch := rfl
                  have hbd := HB.out k'
                  obtain ⟨t, ht⟩ : ∃ t, t = cutVal (sideF s) (L.take k') := ⟨_, rfl⟩
                  obtain ⟨xu, hxu⟩ : ∃ x, x = s.getD u 0 := ⟨_, rfl⟩
                  obtain ⟨xv, hxv⟩ : ∃ x, x = s.getD v 0 := ⟨_, rfl⟩
                  rw [← ht] at hstep hbd ⊢
                  rw [← hxu] at cu bu hct
                  rw [← hxv] at cv bv hct
                  rw [hct] at hstep
                  obtain ⟨hbd1, hbd2⟩ := hbd
                  replace hstep := Lib.hid hstep
                  clear hc hl ht hct hxu hxv
                  by_cases e : xu = xv
                  · have t1 := nF e
                    have E := Lib.hid (congrArg (· == (1 : Int)) e)
                    clear e
                    go_wp2_with fail
                    go_quiet (fail)
                    go_wp2_with fail
                    go_roundw
                    case rel => exact ⟨k' + 1, _, by omega, by go_num, by rw [hstep.out, if_pos E.out]; exact congrArg (Value.int .i64) (by omega), by first | rfl | exact World.drewN_drewN _ _ _ | trivial⟩
                    case measure => simp [intOf]; omega
                  · have t1 := nT e
                    have E := Lib.hid (fun h => e ((side_ne bu bv).1 h))
                    clear e
                    go_wp2_with fail
                    go_quiet (fail)
                    go_wp2_with fail
                    go_roundw
                    case rel => exact ⟨k' + 1, _, by omega, by go_num, by rw [hstep.out, if_neg E.out], by first | rfl | exact World.drewN_drewN _ _ _ | trivial⟩
                    case measure => simp [intOf]; omega
                · obtain rfl : k' = m := by omega
                  go_wp2_with fail
                  go_ret
                  exact ⟨_, rfl, .inl ⟨HP.out, by rw [List.take_of_length_le (by rw [← Hm.out]; exact Nat.le_refl _)]⟩, below_drewN hb _⟩
            · have t3 := bF ey
              have t4 := nT ey
              have HP : Hid (¬ CutP k L p q s) := fun h => ey (by have := h.2.2.2.2; rw [Int.toNat_natCast, ← hy.out] at this; exact this)
              clear ex ey
              go_wp2_with fail
              go_ret
              exact ⟨-1, rfl, .inr ⟨HP.out, rfl⟩, hb⟩
          · have t1 := bF ex
            have t2 := nT ex
            have HP : Hid (¬ CutP k L p q s) := fun h => ex (by have := h.2.2.2.1; rw [Int.toNat_natCast, ← hx.out] at this; exact this)
            clear ex
            go_wp2_with fail
            go_ret
            exact ⟨-1, rfl, .inr ⟨HP.out, rfl⟩, hb⟩
    · have hne : ((m2 : Int) != (nn : Int)) = true := nT (by omega)
      have hne2 : ((m2 : Int) == (nn : Int)) = false := bF (by omega)
      have HP : Hid (¬ CutP nn L p q s) := fun h => hmm (by have := h.2.1; rw [← Hm2.out] at this; omega)
      clear hmm
      go_enter Try.func25, Try.ntmps25
      go_wp2_with fail
      refine HT.out.mono ?_
      rintro e w1 ⟨rfl, hb⟩
      go_wp2_with fail
      go_ret
      exact ⟨-1, rfl, .inr ⟨HP.out, rfl⟩, hb⟩
end Go.Proofs.Ytkcfclkpbmeaiaa
