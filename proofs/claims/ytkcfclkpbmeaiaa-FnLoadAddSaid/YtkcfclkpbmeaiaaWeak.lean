/- NetWeakest: reference and program walked. -/
import Derived.Test.YtkcfclkpbmeaiaaMin
import Derived.Test.YtkcfclkpbmeaiaaNeed
namespace Go.Proofs.Ytkcfclkpbmeaiaa
set_option linter.unusedVariables false
set_option linter.unusedSimpArgs false
open Go.RowKit
def weakOk (n : Int) (L : List Ln) (p q : Int) : Bool := twoOk n L p q && decide (0 < L.length)
def WeakR (n : Int) (L : List Ln) (p q : Int) (r : Int) (ok : Bool) : Prop := ok = weakOk n L p q ∧ r = if weakOk n L p q = true then ((bestAt (leftV n L p q) L.length : Nat) : Int) else 0
def IbPost (R : Int → Bool → Prop) (w : World) (e : Ending) (w' : World) : Prop := ∃ r ok, e = .returned (.tuple #[.int .i64 r, .bool ok]) ∧ R r ok ∧ Below w.heap.size w w'
theorem best_lt (xs : List Int) (k m : Nat) (hk : k < m) : bestAt xs k < m := by
  by_cases h0 : k = 0
  · subst h0; simp [bestAt]; omega
  · have := (best_spec xs k (by omega)).1; omega
theorem leftV_at {n : Int} {L : List Ln} {p q : Int} {k : Nat} (hk : k < L.length) : atI (leftV n L p q) k = mostV n (L.eraseIdx k) p q := by
  rw [atI, List.getD_eq_getElem?_getD, leftV_get hk]; rfl
set_option maxRecDepth 100000 in
theorem sWeak (n : Int) (A : Option Addr) (c : Nat) (L : List Ln) (p q : Int) (hL1 : L.length ≤ 1048576) (hcap : L.length ≤ c) (w : World) (hL : Lns w w.heap.size A L) :
    Calls Try.prog 45 #[.int .i64 n, .slice A L.length c, .int .i64 p, .int .i64 q] w (IbPost (WeakR n L p q) w) := by
  have HT := Lib.hid (fun w hL => sTwo n A c L p q hL1 w hL)
  cases h1 : twoOk n L p q with
  | false =>
    rw [h1] at HT
    have HV : Hid (WeakR n L p q 0 false) := ⟨by rw [weakOk, h1]; rfl, by rw [weakOk, h1]; rfl⟩
    clear h1
    go_enter Try.func45, Try.ntmps45
    go_wp2_with fail
    refine (HT.out _ hL).mono ?_
    rintro e w1 ⟨rfl, hb1⟩
    go_wp2_with fail
    go_ret2
    exact ⟨_, _, rfl, HV.out, hb1⟩
  | true =>
    by_cases hm0 : L.length = 0
    · rw [h1] at HT
      have HV : Hid (WeakR n L p q 0 false) := ⟨by rw [weakOk, hm0]; simp, by rw [weakOk, hm0]; simp⟩
      rw [hm0] at HT ⊢
      clear h1 hm0
      go_enter Try.func45, Try.ntmps45
      go_wp2_with fail
      refine (HT.out _ hL).mono ?_
      rintro e w1 ⟨rfl, hb1⟩
      go_wp2_with fail
      go_ret2
      exact ⟨_, _, rfl, HV.out, hb1⟩
    · obtain ⟨hn, _⟩ := twoOk_n h1
      obtain ⟨_, _, hL10, _⟩ := netOk_n hn
      have hwk : weakOk n L p q = true := by rw [weakOk, h1, decide_eq_true (by omega)]; rfl
      have HV : Hid (WeakR n L p q ((bestAt (leftV n L p q) L.length : Nat) : Int) true) := ⟨hwk.symm, by rw [if_pos hwk]⟩
      have HLs := fun kk (hk : kk < L.length) w hL => sLess n A c L p q kk h1 hk hcap w hL
      have HLs2 : Hid (∀ kk, kk < L.length → ∀ w : World, Lns w w.heap.size A L → Calls Try.prog 72 #[.int .i64 n, .slice A L.length c, .int .i64 p, .int .i64 q, .int .i64 kk] w fun e w' => e = .returned (.int .i64 (mostV n L p q - atI (leftV n L p q) kk)) ∧ Below w.heap.size w w') := fun kk hk w hL => by rw [leftV_at hk]; exact HLs kk hk w hL
      have HB : Hid (∀ kk, kk < L.length → 0 ≤ atI (leftV n L p q) kk ∧ atI (leftV n L p q) kk ≤ 90) := fun kk hk => by rw [leftV_at hk]; exact mostV_bound (two_erase h1 kk)
      obtain ⟨hb01, hb02⟩ := mostV_bound h1
      rw [h1] at HT
      obtain ⟨t, ht⟩ : ∃ t, t = mostV n L p q := ⟨_, rfl⟩
      obtain ⟨X, hX⟩ : ∃ X, X = leftV n L p q := ⟨_, rfl⟩
      rw [← ht] at HLs2 hb01 hb02
      rw [← hX] at HLs2 HB HV
      obtain ⟨m, hm⟩ : ∃ m, m = L.length := ⟨_, rfl⟩
      rw [← hm] at hL1 hL10 hcap HT HV HLs2 HB hm0 ⊢
      have t0 : ((m : Int) == 0) = false := bF (by omega)
      clear hm h1 hn ht hwk HLs hX
      go_enter Try.func45, Try.ntmps45
      go_wp2_with fail
      refine (HT.out _ hL).mono ?_
      rintro e w1 ⟨rfl, hb1⟩
      go_wp2_with fail
      go_loopw [10, 11] (fun b i wr => ∃ k : Nat, k ≤ m ∧ i = .int .i64 k ∧ b = .int .i64 (bestAt X k : Nat) ∧ Below w.heap.size w wr) (fun _ i _ => m - (intOf i).toNat)
      case atStart => exact ⟨0, by omega, rfl, rfl, hb1⟩
      case round =>
        clear hb1
        obtain ⟨k, hk, rfl, rfl, hbel⟩ := hrel
        by_cases hkm : k < m
        · have hbk := best_lt X k m hkm
          have hbest : bestAt X (k + 1) = if atI X k < atI X (bestAt X k) then k else bestAt X k := rfl
          have hl1 := fun w hL => HLs2.out k hkm w hL
          have hl2 := fun w hL => HLs2.out (bestAt X k) hbk w hL
          obtain ⟨b1, b2⟩ := HB.out k hkm
          obtain ⟨b3, b4⟩ := HB.out (bestAt X k) hbk
          obtain ⟨b, hb⟩ : ∃ b, b = bestAt X k := ⟨_, rfl⟩
          rw [← hb] at hbk hbest hl2 b3 b4 ⊢
          obtain ⟨x, hx⟩ : ∃ x, x = atI X k := ⟨_, rfl⟩
          obtain ⟨y, hy⟩ : ∃ y, y = atI X b := ⟨_, rfl⟩
          rw [← hx] at hl1 hbest b1 b2
          rw [← hy] at hl2 hbest b3 b4
          replace hl1 := Lib.hid hl1
          replace hl2 := Lib.hid hl2
          replace hbest := Lib.hid hbest
          clear hx hy hb
          go_wp2_with fail
          refine (hl1.out _ ((hL.below hbel).more hbel.size)).mono ?_
          rintro e w2 ⟨rfl, hb2⟩
          replace hb2 := hbel.trans (hb2.mono hbel.size)
          go_wp2_with fail
          refine (hl2.out _ ((hL.below hb2).more hb2.size)).mono ?_
          rintro e w3 ⟨rfl, hb3⟩
          replace hb3 := hb2.trans (hb3.mono hb2.size)
          clear hb2
          by_cases hxy : x < y
          · have g1 : t - y < t - x := by omega
            have hbn : Hid (bestAt X (k + 1) = k) := by show _ = _; rw [hbest.out, if_pos hxy]
            clear hxy
            go_wp2_with fail
            go_roundw
            case rel => exact ⟨k + 1, by omega, by go_num, by rw [hbn.out], hb3⟩
            case measure => simp [intOf]; omega
          · have g1 : ¬ t - y < t - x := by omega
            have hbn : Hid (bestAt X (k + 1) = b) := by show _ = _; rw [hbest.out, if_neg hxy]
            clear hxy
            go_wp2_with fail
            go_roundw
            case rel => exact ⟨k + 1, by omega, by go_num, by rw [hbn.out], hb3⟩
            case measure => simp [intOf]; omega
        · obtain rfl : k = m := by omega
          go_wp2_with fail
          go_ret2
          exact ⟨_, _, rfl, HV.out, hbel⟩
set_option maxRecDepth 100000 in
theorem iWeak (n : Int) (A : Option Addr) (c : Nat) (L : List Ln) (p q : Int) (hL1 : L.length ≤ 1048576) (hcap : L.length ≤ c) (hcm : c ≤ maxLen) (w : World) (hL : Lns w w.heap.size A L) :
    Calls Try.prog 44 #[.int .i64 n, .slice A L.length c, .int .i64 p, .int .i64 q] w (IbPost (WeakR n L p q) w) := by
  have HT := Lib.hid (fun w hL => iTwo n A c L p q hL1 w hL)
  cases h1 : twoOk n L p q with
  | false =>
    rw [h1] at HT
    have HV : Hid (WeakR n L p q 0 false) := ⟨by rw [weakOk, h1]; rfl, by rw [weakOk, h1]; rfl⟩
    clear h1
    go_enter Try.func44, Try.ntmps44
    go_wp2_with fail
    refine (HT.out _ hL).mono ?_
    rintro e w1 ⟨rfl, hb1⟩
    go_wp2_with fail
    go_ret2
    exact ⟨_, _, rfl, HV.out, hb1⟩
  | true =>
    by_cases hm0 : L.length = 0
    · rw [h1] at HT
      have HV : Hid (WeakR n L p q 0 false) := ⟨by rw [weakOk, hm0]; simp, by rw [weakOk, hm0]; simp⟩
      rw [hm0] at HT ⊢
      clear h1 hm0
      go_enter Try.func44, Try.ntmps44
      go_wp2_with fail
      refine (HT.out _ hL).mono ?_
      rintro e w1 ⟨rfl, hb1⟩
      go_wp2_with fail
      go_ret2
      exact ⟨_, _, rfl, HV.out, hb1⟩
    · obtain ⟨hn, _⟩ := twoOk_n h1
      obtain ⟨_, _, hL10, _⟩ := netOk_n hn
      have hwk : weakOk n L p q = true := by rw [weakOk, h1, decide_eq_true (by omega)]; rfl
      have HV : Hid (WeakR n L p q ((bestAt (leftV n L p q) L.length : Nat) : Int) true) := ⟨hwk.symm, by rw [if_pos hwk]⟩
      have HLs := Lib.hid (fun w hL => iLeft n A c L p q h1 hcap hcm w hL)
      have HLL := leftV_len n L p q
      rw [h1] at HT
      obtain ⟨X, hX⟩ : ∃ X, X = leftV n L p q := ⟨_, rfl⟩
      rw [← hX] at HLs HLL HV
      have hs1 : 1 ≤ X.length := by omega
      have hs2 : X.length ≤ 100000 := by omega
      obtain ⟨e1, e2, e3⟩ := best_spec X X.length hs1
      have HMn := Lib.hid (fun A c lo hi w hA => iMin A c lo hi X hs1 hs2 w hA)
      have HIx := Lib.hid (fun A c lo hi w hA => iIndex A c lo hi X (atI X (bestAt X X.length)) (bestAt X X.length) e1 hs2 rfl (fun i hi => by have := e3 i hi; omega) w hA)
      have t0 : ((L.length : Int) == 0) = false := bF (by omega)
      obtain ⟨m, hm⟩ : ∃ m, m = L.length := ⟨_, rfl⟩
      rw [← hm] at hL1 hL10 hcap HT HV HLL hm0 t0 HLs ⊢
      have HXl := Lib.hid HLL
      rw [HLL] at HMn HIx
      clear hm h1 hn hwk hX e1 e2 e3 HLL hs1 hs2
      obtain ⟨b, hb⟩ : ∃ b, b = bestAt X m := ⟨_, rfl⟩
      rw [← hb] at HV HMn HIx
      obtain ⟨y, hy⟩ : ∃ y, y = atI X b := ⟨_, rfl⟩
      rw [← hy] at HMn HIx
      clear hb hy
      go_enter Try.func44, Try.ntmps44
      go_wp2_with fail
      refine (HT.out _ hL).mono ?_
      rintro e w1 ⟨rfl, hb1⟩
      go_wp2_with fail
      refine (HLs.out _ ((hL.below hb1).more hb1.size)).mono ?_
      rintro e w2 ⟨AX, cx, X', rfl, rfl, hox, hb2⟩
      have hXw := hox.iv
      rw [HXl.out]
      have hb3 := hb1.trans (hb2.mono hb1.size)
      clear hb1 hb2 hox
      go_wp2_with fail
      refine (HMn.out _ _ _ _ _ hXw).mono ?_
      rintro e w4 ⟨rfl, hb4⟩
      replace hXw := hXw.below hb4 (Nat.le_refl _)
      replace hb4 := hb3.trans (hb4.mono hb3.size)
      go_wp2_with fail
      refine (HIx.out _ _ _ _ _ hXw).mono ?_
      rintro e w5 ⟨rfl, hb5⟩
      replace hb5 := hb4.trans (hb5.mono hb4.size)
      go_wp2_with fail
      go_ret2
      exact ⟨_, _, rfl, HV.out, hb5⟩
theorem sWeak' (n : Int) (A : Option Addr) (c : Nat) (L : List Ln) (p q : Int) (hL1 : L.length ≤ 1048576) (w : World) (hL : Lns w w.heap.size A L) (hcap : L.length ≤ c := by exact Nat.le_refl _) :
    Calls Try.prog 45 #[.int .i64 n, .slice A L.length c, .int .i64 p, .int .i64 q] w (IbPost (WeakR n L p q) w) := sWeak n A c L p q hL1 hcap w hL
theorem iWeak' (n : Int) (A : Option Addr) (c : Nat) (L : List Ln) (p q : Int) (hL1 : L.length ≤ 1048576) (w : World) (hL : Lns w w.heap.size A L) (hcap : L.length ≤ c := by exact Nat.le_refl _) (hcm : c ≤ maxLen := by unfold maxLen; omega) :
    Calls Try.prog 44 #[.int .i64 n, .slice A L.length c, .int .i64 p, .int .i64 q] w (IbPost (WeakR n L p q) w) := iWeak n A c L p q hL1 hcap hcm w hL
theorem WeakR_fn {n : Int} {L : List Ln} {p q : Int} (r : Int) (ok : Bool) (r' : Int) (ok' : Bool) (h : WeakR n L p q r ok) (k : WeakR n L p q r' ok') : r = r' ∧ ok = ok' := ⟨h.2.trans k.2.symm, h.1.trans k.1.symm⟩
end Go.Proofs.Ytkcfclkpbmeaiaa
