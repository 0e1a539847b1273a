/- The program's LoadValid, and both LoadTraffic, walked. -/
import Derived.Test.YtkcfclkpbmeaiaaLoad2
namespace Go.Proofs.Ytkcfclkpbmeaiaa
set_option linter.unusedVariables false
set_option linter.unusedSimpArgs false
open Go.RowKit
set_option maxRecDepth 100000 in
theorem iLoadValid (n : Int) (A : Option Addr) (c : Nat) (L : List Ln) (p q : Int) (F : Option Addr) (cf : Nat) (f : List Int) (hL1 : L.length ≤ 1048576) (hf1 : f.length ≤ 1048576) (w : World) (hL : Lns w w.heap.size A L) (hF : Iv w 0 w.heap.size F f) :
    Calls Try.prog 15 #[.int .i64 n, .slice A L.length c, .int .i64 p, .int .i64 q, .slice F f.length cf] w (BoolPost (LoadP n L p q f) w) := by
  have hT := iTwo n A c L p q hL1 w hL
  cases h1 : twoOk n L p q with
  | false =>
    rw [h1] at hT
    have HP : Hid (¬ LoadP n L p q f) := fun h => by rw [h.1] at h1; cases h1
    have HT := Lib.hid hT
    clear h1 hT
    go_enter Try.func15, Try.ntmps15
    go_wp2_with fail
    refine HT.out.mono ?_
    rintro e w1 ⟨rfl, hb⟩
    go_wp2_with fail
    go_ret
    exact ⟨false, rfl, ff_iff HP.out, hb⟩
  | true =>
    obtain ⟨h2, hp0, hp1, hq0, hq1, hpq⟩ := twoOk_n h1
    obtain ⟨n2, n6, hlen10, hin⟩ := netOk_n h2
    rw [h1] at hT
    have HT := Lib.hid hT
    have H1 := Lib.hid h1
    clear hT h1 h2
    obtain ⟨nn, rfl⟩ := Int.eq_ofNat_of_zero_le (by omega : 0 ≤ n)
    rw [Int.toNat_natCast] at hin
    obtain ⟨m, hm⟩ : ∃ m, m = L.length := ⟨_, rfl⟩
    obtain ⟨m2, hm2⟩ : ∃ m, m = f.length := ⟨_, rfl⟩
    have Hm := Lib.hid hm
    have Hm2 := Lib.hid hm2
    have HO := Lib.hid (iFlows A c L F cf f nn (by omega) hin)
    rw [← hm] at hL1 hlen10 HT ⊢
    rw [← hm2] at hf1 ⊢
    clear hm hm2
    by_cases hmm : m2 = m
    · subst hmm
      go_enter Try.func15, Try.ntmps15
      go_wp2_with fail
      refine HT.out.mono ?_
      rintro e w1 ⟨rfl, hb⟩
      go_wp2_with fail
      go_loopw [30] (fun i wr => ∃ k : Nat, k ≤ m2 ∧ i = .int .i64 k ∧ Hid (∀ j l x, j < k → L[j]? = some l → f[j]? = some x → -l.c ≤ x ∧ x ≤ l.c) ∧ Below w.heap.size w wr) (fun i _ => m2 - (intOf i).toNat)
      case atStart => exact ⟨0, by omega, rfl, fun j l x hj => by omega, hb⟩
      case round =>
        obtain ⟨k, hk, rfl, hall, hbel⟩ := hrel
        by_cases hlt : k < m2
        · obtain ⟨b, off, rfl, hb, hc⟩ := (hL.below hbel) (by rw [← Hm.out]; omega)
          obtain ⟨b', off', rfl, _, hb', hc'⟩ := (hF.below hbel (Nat.le_refl _)) (by rw [← Hm2.out]; omega)
          obtain ⟨l, hl⟩ : ∃ l, L[k]? = some l := ⟨L[k]'(by rw [← Hm.out]; exact hlt), List.getElem?_eq_getElem _⟩
          obtain ⟨x, hx⟩ : ∃ x, f[k]? = some x := ⟨f[k]'(by rw [← Hm2.out]; exact hlt), List.getElem?_eq_getElem _⟩
          obtain ⟨c1, c2, c3⟩ := hc k l hl
          have c4 := hc' k x hx
          have hli := hin l (List.mem_of_getElem? hl)
          have hl1 : 1 ≤ l.c := by omega
          have hl9 : l.c ≤ 9 := by omega
          have w2 : IntKind.i64.wrap (-l.c) = -l.c := IntWalk.i64_in _ (by omega)
          have hlt2 : b' < wr.heap.size := Nat.lt_of_lt_of_le hb' hbel.size
          obtain ⟨r, hr⟩ : ∃ r, inB x (-l.c) l.c = r := ⟨_, rfl⟩
          replace hr := Lib.hid hr
          replace hl := Lib.hid hl
          replace hx := Lib.hid hx
          have hbl : Below w.heap.size w (wr.alloc (Obj.cells #[.int .i64 l.a, .int .i64 l.b, .int .i64 l.c] 36)) := hbel.alloc hbel.size _
          clear hc hc' hli
          go_wp2_with fail
          go_quiet ((go_at_call 53; exact Calls.quiet_of_same ((within_b _ _ _ _ hr.out _).mono fun _ _ h => ⟨h.1, h.2.symm⟩)))
          cases r with
          | false =>
            go_wp2_with fail
            go_ret
            refine ⟨false, rfl, ff_iff fun h => ?_, below_drewN hbl _⟩
            have := capB.2 (caps_get h.2.2.1 hl.out hx.out)
            rw [hr.out] at this; cases this
          | true =>
            go_wp2_with fail
            go_roundw
            case rel => exact ⟨k + 1, by omega, by go_num, caps_next hall.out hl.out hx.out (capB.1 hr.out), below_drewN hbl _⟩
            case measure => simp [intOf]; omega
        · obtain rfl : k = m2 := by omega
          have hcaps : caps L f := caps_mk fun j l x hl hx => hall.out j l x (by rw [Hm.out]; exact (List.getElem?_eq_some_iff.1 hl).1) hl hx
          have Hc := Lib.hid hcaps
          have hbd := fun s => outAt_bound hin hcaps s
          rw [← Hm.out] at hbd
          have HB := Lib.hid hbd
          clear hbd
          have ho' := HO.out hcaps (Hm2.out.symm.trans Hm.out) (by rw [← Hm.out]; exact hlen10)
          rw [← Hm.out, ← Hm2.out] at ho'
          replace ho' := Lib.hid ho'
          clear hcaps
          go_wp2_with fail
          refine (ho'.out _ ((hL.below hbel).more hbel.size) ((hF.below hbel (Nat.le_refl _)).more (Nat.le_refl _) hbel.size)).mono ?_
          rintro e w2 ⟨g, rfl, hrow, hg, hb2⟩
          have hbel2 := hbel.trans (hb2.mono hbel.size)
          clear hb2
          go_wp2_with fail
          go_loop [13, 14, 52] (fun _ _ i => ∃ s : Nat, s ≤ nn ∧ i = .int .i64 s ∧ Hid (∀ j : Nat, j < s → stBad p q j (outAt L f j) = false)) (fun _ _ i => nn - (intOf i).toNat)
          case atStart => exact ⟨0, by omega, rfl, fun j hj => by omega⟩
          case round =>
            obtain ⟨s, hs, rfl, hgood⟩ := hrel
            by_cases hslt : s < nn
            · have hcell := hrow.cellI (ivs_get (flowsL_get L f hslt))
              obtain ⟨o, ho⟩ : ∃ o, o = outAt L f s := ⟨_, rfl⟩
              have hob := HB.out s
              rw [← ho] at hob hcell
              obtain ⟨hob1, hob2⟩ := hob
              replace ho := Lib.hid ho
              have done : ∀ b, stBad p q s o = b → Hid (stBad p q s (outAt L f s) = b) := fun b h => by rw [← ho.out]; exact h
              replace done := Lib.hid done
              by_cases e1 : (s : Int) = p
              · subst e1
                have t1 : ((s : Int) == s) = true := by simp
                have t2 : ((s : Int) != s) = false := by simp
                by_cases e3 : o < 0
                · have hB := done.out true (by unfold stBad; simp [e3])
                  go_wp2_with fail
                  go_ret
                  exact ⟨false, rfl, ff_iff (fun h => by have := h.2.2.2 s (by omega); rw [hB.out] at this; cases this), hbel2⟩
                · have hB := done.out false (by unfold stBad; simp [e3])
                  have e3' : 0 ≤ o := by omega
                  go_wp2_with fail
                  go_round
                  case rel => exact ⟨s + 1, by omega, by go_num, good_next hgood.out hB.out⟩
                  case measure => simp [intOf]; omega
              · have t1 := bF e1
                have t2 := nT e1
                by_cases e2 : (s : Int) = q
                · have t3 := bT e2
                  have t4 := nF e2
                  have hB := done.out false (by unfold stBad; rw [t1, t2, t4]; rfl)
                  clear e1 e2
                  go_wp2_with fail
                  go_round
                  case rel => exact ⟨s + 1, by omega, by go_num, good_next hgood.out hB.out⟩
                  case measure => simp [intOf]; omega
                · have t3 := bF e2
                  have t4 := nT e2
                  by_cases e3 : o = 0
                  · have t5 := bT e3
                    have t6 := nF e3
                    have hB := done.out false (by unfold stBad; rw [t1, t2, t4, t6]; rfl)
                    clear e1 e2 e3
                    go_wp2_with fail
                    go_round
                    case rel => exact ⟨s + 1, by omega, by go_num, good_next hgood.out hB.out⟩
                    case measure => simp [intOf]; omega
                  · have t5 := bF e3
                    have t6 := nT e3
                    have hB := done.out true (by unfold stBad; rw [t1, t2, t4, t6]; rfl)
                    clear e1 e2 e3
                    go_wp2_with fail
                    go_ret
                    exact ⟨false, rfl, ff_iff (fun h => by have := h.2.2.2 s (by omega); rw [hB.out] at this; cases this), hbel2⟩
            · obtain rfl : s = nn := by omega
              go_wp2_with fail
              go_ret
              exact ⟨true, rfl, tt_iff ⟨H1.out, Hm2.out.symm.trans Hm.out, Hc.out, fun j hj => hgood.out j (by omega)⟩, hbel2⟩
    · have hne : ((m2 : Int) != (m : Int)) = true := nT (by omega)
      have hne2 : ((m2 : Int) == (m : Int)) = false := bF (by omega)
      have HP : Hid (¬ LoadP nn L p q f) := fun h => hmm (by rw [Hm.out, Hm2.out]; exact h.2.1)
      clear hmm
      go_enter Try.func15, Try.ntmps15
      go_wp2_with fail
      refine HT.out.mono ?_
      rintro e w1 ⟨rfl, hb⟩
      go_wp2_with fail
      go_ret
      exact ⟨false, rfl, ff_iff HP.out, hb⟩
/-- A load's traffic, -1 for no load. -/
def TrafPost (n : Int) (L : List Ln) (p q : Int) (f : List Int) (w : World) (e : Ending) (w' : World) : Prop :=
  ∃ t : Int, e = .returned (.int .i64 t) ∧ ((LoadP n L p q f ∧ t = outAt L f p) ∨ (¬ LoadP n L p q f ∧ t = -1)) ∧ Below w.heap.size w w'
theorem sLoadTraffic (n : Int) (A : Option Addr) (c : Nat) (L : List Ln) (p q : Int) (F : Option Addr) (cf : Nat) (f : List Int) (hL1 : L.length ≤ 1048576) (hf1 : f.length ≤ 1048576) (w : World) (hL : Lns w w.heap.size A L) (hF : Iv w 0 w.heap.size F f) :
    Calls Try.prog 42 #[.int .i64 n, .slice A L.length c, .int .i64 p, .int .i64 q, .slice F f.length cf] w (TrafPost n L p q f w) := by
  have HV := Lib.hid (sLoadValid n A c L p q F cf f hL1 hf1 w hL hF)
  have HO := Lib.hid (sOut A c L F cf f n.toNat)
  go_enter Try.func42, Try.ntmps42
  go_wp2_with fail
  refine HV.out.mono ?_
  rintro e w1 ⟨r, rfl, hr, hb⟩
  cases r with
  | false =>
    have HN : Hid (¬ LoadP n L p q f) := fun h => by have := hr.2 h; cases this
    clear hr
    go_wp2_with fail
    go_ret
    exact ⟨-1, rfl, .inr ⟨HN.out, rfl⟩, hb⟩
  | true =>
    have hP := hr.1 rfl
    have HP := Lib.hid hP
    obtain ⟨h2, _⟩ := twoOk_n hP.1
    obtain ⟨n2, n6, hlen10, hin⟩ := netOk_n h2
    have ho := HO.out hin hP.2.2.1 hP.2.1 hlen10 p w1 w.heap.size (hL.below hb) (hF.below hb (Nat.le_refl _))
    have Ho := Lib.hid ho
    clear hr hP h2 hlen10 hin ho
    go_wp2_with fail
    refine Ho.out.mono ?_
    rintro e w2 ⟨rfl, rfl⟩
    go_wp2_with fail
    go_ret
    exact ⟨_, rfl, .inl ⟨HP.out, rfl⟩, hb⟩
theorem iLoadTraffic (n : Int) (A : Option Addr) (c : Nat) (L : List Ln) (p q : Int) (F : Option Addr) (cf : Nat) (f : List Int) (hL1 : L.length ≤ 1048576) (hf1 : f.length ≤ 1048576) (w : World) (hL : Lns w w.heap.size A L) (hF : Iv w 0 w.heap.size F f) :
    Calls Try.prog 17 #[.int .i64 n, .slice A L.length c, .int .i64 p, .int .i64 q, .slice F f.length cf] w (TrafPost n L p q f w) := by
  have HV := Lib.hid (iLoadValid n A c L p q F cf f hL1 hf1 w hL hF)
  have HO := Lib.hid (fun nn => iFlows A c L F cf f nn)
  by_cases hT : twoOk n L p q = true
  · obtain ⟨h2, hp0, hp1, _⟩ := twoOk_n hT
    obtain ⟨n2, n6, hlen10, hin⟩ := netOk_n h2
    obtain ⟨nn, rfl⟩ := Int.eq_ofNat_of_zero_le (by omega : 0 ≤ n)
    obtain ⟨pp, rfl⟩ := Int.eq_ofNat_of_zero_le hp0
    rw [Int.toNat_natCast] at hin
    have HL10 := Lib.hid hlen10
    have Hin := Lib.hid hin
    clear h2 hT hlen10 hin
    go_enter Try.func17, Try.ntmps17
    go_wp2_with fail
    refine HV.out.mono ?_
    rintro e w1 ⟨r, rfl, hr, hb⟩
    cases r with
    | false =>
      have HN : Hid (¬ LoadP nn L pp q f) := fun h => by have := hr.2 h; cases this
      clear hr
      go_wp2_with fail
      go_ret
      exact ⟨-1, rfl, .inr ⟨HN.out, rfl⟩, hb⟩
    | true =>
      have hP := hr.1 rfl
      have HP := Lib.hid hP
      have ho := HO.out nn (by omega) Hin.out hP.2.2.1 hP.2.1 HL10.out w1 ((hL.below hb).more hb.size) ((hF.below hb (Nat.le_refl _)).more (Nat.le_refl _) hb.size)
      have Ho := Lib.hid ho
      clear hr hP ho
      go_wp2_with fail
      refine Ho.out.mono ?_
      rintro e w2 ⟨g, rfl, hrow, hg, hb2⟩
      have hpn : pp < nn := by omega
      have hcell := hrow.cellI (ivs_get (flowsL_get L f hpn))
      have hbel2 := hb.trans (hb2.mono hb.size)
      clear hb2
      go_wp2_with fail
      go_ret
      exact ⟨_, rfl, .inl ⟨HP.out, rfl⟩, hbel2⟩
  · have HN : Hid (¬ LoadP n L p q f) := fun h => hT h.1
    clear hT
    go_enter Try.func17, Try.ntmps17
    go_wp2_with fail
    refine HV.out.mono ?_
    rintro e w1 ⟨r, rfl, hr, hb⟩
    cases r with
    | true => exact absurd (hr.1 rfl) HN.out
    | false =>
      clear hr
      go_wp2_with fail
      go_ret
      exact ⟨-1, rfl, .inr ⟨HN.out, rfl⟩, hb⟩
end Go.Proofs.Ytkcfclkpbmeaiaa
