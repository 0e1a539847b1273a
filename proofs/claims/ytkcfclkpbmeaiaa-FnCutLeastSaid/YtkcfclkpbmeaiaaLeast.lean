/- CutLeast: reference and program walked. -/
import Derived.Test.YtkcfclkpbmeaiaaCutW3
import Derived.Test.YtkcfclkpbmeaiaaRes
namespace Go.Proofs.Ytkcfclkpbmeaiaa
set_option linter.unusedVariables false
set_option linter.unusedSimpArgs false
open Go.RowKit
/-- The side that a number's bits tell, as a list. -/
def sideL (m n : Nat) : List Int := (List.range n).map fun i => if m.testBit i then 1 else 0
theorem sideL_len (m n : Nat) : (sideL m n).length = n := by simp [sideL]
theorem sideL_get {m n i : Nat} (h : i < n) : (sideL m n)[i]? = some (if m.testBit i then 1 else 0) := by
  rw [sideL, List.getElem?_map, List.getElem?_range h]; rfl
theorem sideL_getD {m n i : Nat} (h : i < n) : (sideL m n).getD i 0 = if m.testBit i then 1 else 0 := by
  rw [List.getD_eq_getElem?_getD, sideL_get h]; rfl
theorem sideL_snoc (m n : Nat) : sideL m n ++ [if m.testBit n then 1 else 0] = sideL m (n + 1) := by
  rw [sideL, sideL, List.range_succ, List.map_append]; rfl
theorem bit_div (m i : Nat) : (if m.testBit i then (1 : Int) else 0) = ((m / 2 ^ i % 2 : Nat) : Int) := by
  rw [Nat.testBit_eq_decide_div_mod_eq]
  by_cases h : m / 2 ^ i % 2 = 1
  · rw [h]; simp
  · rw [show m / 2 ^ i % 2 = 0 by omega]; simp
/-- The list of CutLeast. -/
def leastL (n : Nat) (L : List Ln) (p q : Nat) (k : Nat) : List Int := match leastTo L p q k with
  | none => []
  | some b => sideL b n
def leastC (L : List Ln) (p q : Nat) (k : Nat) : Int := match leastTo L p q k with
  | none => -1
  | some b => cutVal (sideB b) L
def LeastR (n : Int) (L : List Ln) (p q : Int) (xs : List Int) (ok : Bool) : Prop :=
  (twoOk n L p q = true ∧ xs = leastL n.toNat L p.toNat q.toNat (2 ^ n.toNat) ∧ ok = true) ∨ (twoOk n L p q = false ∧ xs = [] ∧ ok = false)
theorem LeastR_fn (n : Int) (L : List Ln) (p q : Int) : Fn1 (LeastR n L p q) := fun xs ok ys ok' h k => by
  rcases h with ⟨h1, h2, h3⟩ | ⟨h1, h2, h3⟩ <;> rcases k with ⟨k1, k2, k3⟩ | ⟨k1, k2, k3⟩
  · exact ⟨h2.trans k2.symm, h3.trans k3.symm⟩
  · rw [h1] at k1; cases k1
  · rw [h1] at k1; cases k1
  · exact ⟨h2.trans k2.symm, h3.trans k3.symm⟩
theorem leastL_len (n : Nat) (L : List Ln) (p q k : Nat) : (leastL n L p q k).length ≤ n := by
  unfold leastL
  split
  · simp
  · rw [sideL_len]; exact Nat.le_refl _
theorem LeastR_len {n : Int} {L : List Ln} {p q : Int} {xs : List Int} {ok : Bool} (h : LeastR n L p q xs ok) : xs.length ≤ 1048576 := by
  rcases h with ⟨h1, rfl, _⟩ | ⟨_, rfl, _⟩
  · obtain ⟨h2, _⟩ := twoOk_n h1
    obtain ⟨_, _, _, _⟩ := netOk_n h2
    have := leastL_len n.toNat L p.toNat q.toNat (2 ^ n.toNat)
    omega
  · simp
theorem cutP_side {n : Nat} {L : List Ln} {p q m : Nat} (h : twoOk n L p q = true) : CutP n L p q (sideL m n) ↔ okSide p q m = true := by
  obtain ⟨_, h1, h2, h3, h4, _⟩ := twoOk_n h
  have hp : p < n := by omega
  have hq : q < n := by omega
  unfold CutP okSide
  rw [Int.toNat_natCast, Int.toNat_natCast, sideL_getD hp, sideL_getD hq, sideL_len, Bool.and_eq_true, Bool.not_eq_true']
  constructor
  · rintro ⟨_, _, _, h5, h6⟩
    constructor
    · cases hb : m.testBit p with
      | true => rfl
      | false => rw [hb] at h5; simp at h5
    · cases hb : m.testBit q with
      | false => rfl
      | true => rw [hb] at h6; simp at h6
  · rintro ⟨h5, h6⟩
    refine ⟨h, rfl, fun x hx => ?_, by rw [h5]; rfl, by rw [h6]; rfl⟩
    unfold sideL at hx
    rw [List.mem_map] at hx
    obtain ⟨i, _, rfl⟩ := hx
    split <;> omega
theorem sideF_side {n : Nat} {L : List Ln} (hL : netIn n L) (m : Nat) : cutVal (sideF (sideL m n)) L = cutVal (sideB m) L :=
  cutVal_congr fun l hl => by
    have h := hL l hl
    have key : ∀ z : Int, 0 ≤ z → z < n → sideF (sideL m n) z = sideB m z := fun z h0 h1 => by
      unfold sideF sideB
      rw [sideL_getD (by omega)]
      cases m.testBit z.toNat <;> rfl
    exact ⟨key _ h.1 h.2.1, key _ h.2.2.1 h.2.2.2.1⟩
theorem least_step {n : Nat} {L : List Ln} (hL : netIn n L) {p q m : Nat} (h : twoOk n L p q = true) {t : Int} (ht : (CutP n L p q (sideL m n) ∧ t = cutVal (sideF (sideL m n)) L) ∨ (¬ CutP n L p q (sideL m n) ∧ t = -1)) :
    (0 ≤ t ∧ (leastC L p q m < 0 ∨ t < leastC L p q m) ∧ leastL n L p q (m + 1) = sideL m n ∧ leastC L p q (m + 1) = t) ∨
    (¬ (0 ≤ t ∧ (leastC L p q m < 0 ∨ t < leastC L p q m)) ∧ leastL n L p q (m + 1) = leastL n L p q m ∧ leastC L p q (m + 1) = leastC L p q m) := by
  rw [cutP_side h, sideF_side hL] at ht
  unfold leastL leastC
  rw [leastTo]
  rcases ht with ⟨h1, rfl⟩ | ⟨h1, rfl⟩
  · have h0 := (cutVal_bound hL (sideB m)).1
    rw [h1, if_pos rfl]
    cases hl : leastTo L p q m with
    | none => left; exact ⟨h0, .inl (show (-1 : Int) < 0 by decide), rfl, rfl⟩
    | some b =>
      have h2 := (cutVal_bound hL (sideB b)).1
      simp only
      by_cases hlt : cutVal (sideB m) L < cutVal (sideB b) L
      · left; rw [if_pos hlt]; exact ⟨h0, .inr hlt, rfl, rfl⟩
      · right; rw [if_neg hlt]; exact ⟨fun h => by rcases h.2 with h | h <;> omega, rfl, rfl⟩
  · right
    rw [if_neg h1]
    exact ⟨fun h => by omega, rfl, rfl⟩
theorem leastC_bound {n : Nat} {L : List Ln} (hL : netIn n L) (hlen : L.length ≤ 10) (p q k : Nat) : -1 ≤ leastC L p q k ∧ leastC L p q k ≤ 90 := by
  unfold leastC
  split
  · decide
  · have := cutVal_bound hL (sideB (‹Nat›))
    omega
theorem side_next (m i z : Nat) (hz : z = m / 2 ^ i) : sideL m i ++ [(z : Int) % 2] = sideL m (i + 1) ∧ z / 2 = m / 2 ^ (i + 1) := by
  subst hz
  constructor
  · rw [← sideL_snoc, bit_div, Int.natCast_emod]; rfl
  · rw [Nat.div_div_eq_div_mul, Nat.pow_succ]
set_option maxRecDepth 100000 in
theorem sCutLeast (n : Int) (A : Option Addr) (c : Nat) (L : List Ln) (p q : Int) (hL1 : L.length ≤ 1048576) (w : World) (hL : Lns w w.heap.size A L) :
    Calls Try.prog 35 #[.int .i64 n, .slice A L.length c, .int .i64 p, .int .i64 q] w (SpPost (LeastR n L p q) w) := by
  have hT := sTwo n A c L p q hL1 w hL
  cases h1 : twoOk n L p q with
  | false =>
    rw [h1] at hT
    have HT := Lib.hid hT
    have H1 := Lib.hid h1
    have hT' := fun w hL => sTwo n A c L p q hL1 w hL
    rw [h1] at hT'
    have HT' := Lib.hid hT'
    clear h1 hT hT'
    go_enter Try.func35, Try.ntmps35
    go_wp2_with fail
    refine (HT'.out _ ((hL.below ((Below.refl _ _).alloc (Nat.le_refl _) _)).more (by simp))).mono ?_
    rintro e w1 ⟨rfl, hb⟩
    have hb' : Below w.heap.size w w1 := ((Below.refl _ _).alloc (Nat.le_refl _) _).trans (hb.mono (by simp))
    go_wp2_with fail
    go_ret2
    exact ⟨_, _, [], false, rfl, .inr ⟨H1.out, rfl, rfl⟩, fun h => absurd h (by simp), hb'⟩
  | true =>
    obtain ⟨h2, hp0, hp1, hq0, hq1, hpq⟩ := twoOk_n h1
    obtain ⟨n2, n6, hlen10, hin⟩ := netOk_n h2
    have hT' := fun w hL => sTwo n A c L p q hL1 w hL
    rw [h1] at hT'
    have HT' := Lib.hid hT'
    obtain ⟨nn, rfl⟩ := Int.eq_ofNat_of_zero_le (by omega : 0 ≤ n)
    obtain ⟨p, rfl⟩ := Int.eq_ofNat_of_zero_le hp0
    obtain ⟨q, rfl⟩ := Int.eq_ofNat_of_zero_le hq0
    rw [Int.toNat_natCast] at hin
    have HC := Lib.hid (fun m A' c' w hL hF => sCutOf nn A c L p q A' c' (sideL m nn) hL1 (by rw [sideL_len]; omega) w hL hF)
    have HB := Lib.hid (fun k => leastC_bound hin hlen10 p q k)
    have HS := Lib.hid (fun m t ht => least_step hin (m := m) (t := t) h1 ht)
    have HP : Hid (∀ i, i ≤ nn → 2 ^ i ≤ 64) := fun i hi => Nat.le_trans (Nat.pow_le_pow_right (by omega) (by omega : i ≤ 6)) (by decide)
    have H1 := Lib.hid h1
    clear hT hT' h1 h2
    go_enter Try.func35, Try.ntmps35
    go_wp2_with fail
    refine (HT'.out _ ((hL.below ((Below.refl _ _).alloc (Nat.le_refl _) _)).more (by simp))).mono ?_
    rintro e w1 ⟨rfl, hb⟩
    have hb1 : Below w.heap.size w w1 := ((Below.refl _ _).alloc (Nat.le_refl _) _).trans (hb.mono (by simp))
    clear hb
    go_wp2_with fail
    go_loop [12, 13] (fun a i => ∃ k : Nat, k ≤ nn ∧ i = .int .i64 k ∧ a = .int .i64 ((2 ^ k : Nat) : Int)) (fun _ i => nn - (intOf i).toNat)
    case atStart => exact ⟨0, by omega, rfl, rfl⟩
    case round =>
      obtain ⟨k, hk, rfl, rfl⟩ := hrel
      have hp64 := HP.out k hk
      obtain ⟨z, hz⟩ : ∃ z, z = 2 ^ k := ⟨_, rfl⟩
      rw [← hz] at hp64 ⊢
      replace hz := Lib.hid hz
      by_cases hlt : k < nn
      · go_wp2_with fail
        go_round
        case rel => exact ⟨k + 1, by omega, by go_num, congrArg (Value.int .i64) (by rw [Nat.pow_succ, ← hz.out]; omega)⟩
        case measure => simp [intOf]; omega
      · obtain rfl : k = nn := by omega
        go_wp2_with fail
        go_loopw [10, 11, 14, 15, 16, 17, 18] (fun best least set _ _ _ _ wr => ∃ (m : Nat) (A' : Option Addr) (c' : Nat) (xs : List Int), m ≤ z ∧ set = .int .i64 m ∧ best = .slice A' xs.length c' ∧ Hid (xs = leastL k L p q m) ∧ least = .int .i64 (leastC L p q m) ∧ Iv wr w.heap.size wr.heap.size A' xs ∧ Below w.heap.size w wr) (fun _ _ set _ _ _ _ _ => z - (intOf set).toNat)
        case atStart => exact ⟨0, _, _, [], by omega, rfl, rfl, rfl, rfl, fun h => absurd h (by simp), hb1⟩
        case round =>
          obtain ⟨m, A', c', xs, hm, rfl, rfl, hxs, rfl, hiv, hbel⟩ := hrel
          by_cases hmz : m < z
          · obtain ⟨W, hW⟩ : ∃ W, W = wr.heap.size := ⟨_, rfl⟩
            have hiv' : Iv (wr.alloc (Obj.cells #[] 3)) w.heap.size W A' xs := by rw [hW]; exact hiv.below ((Below.refl _ _).alloc (Nat.le_refl _) _) (Nat.le_refl _)
            have hown0 : Own (wr.alloc (Obj.cells #[] 3)) W (.slice (some ⟨wr.heap.size, 0, none⟩) 0 0) (sideL m 0) := Own.lit0 _ _ (Nat.le_of_eq hW)
            have hbel' : Below w.heap.size w (wr.alloc (Obj.cells #[] 3)) := hbel.alloc hbel.size _
            have hWw : w.heap.size ≤ W := by rw [hW]; exact hbel.size
            have hWa : W ≤ (wr.alloc (Obj.cells #[] 3)).heap.size := by rw [hW]; simp
            clear hW hiv hbel
            have hcb := HB.out m
            obtain ⟨C, hC⟩ : ∃ C, C = leastC L p q m := ⟨_, rfl⟩
            rw [← hC] at hcb ⊢
            obtain ⟨hcb1, hcb2⟩ := hcb
            replace hC := Lib.hid hC
            go_wp2_with fail
            obtain ⟨wo, hwo⟩ : ∃ wo : World, wo = wr.alloc (Obj.cells #[] 3) := ⟨_, rfl⟩
            rw [← hwo] at hiv' hown0 hbel' hWa ⊢
            clear hwo
            go_loopw [15, 16, 17] (fun v r i wi => ∃ (j y : Nat) (A2 : Option Addr) (c2 : Nat), j ≤ k ∧ i = .int .i64 j ∧ r = .int .i64 (y : Int) ∧ Hid (y = m / 2 ^ j) ∧ y ≤ 64 ∧ v = .slice A2 j c2 ∧ Own wi W (.slice A2 j c2) (sideL m j) ∧ Iv wi w.heap.size W A' xs ∧ Below w.heap.size w wi ∧ W ≤ wi.heap.size) (fun _ _ i _ => k - (intOf i).toNat)
            case atStart => exact ⟨0, m, _, _, by omega, rfl, rfl, (show m = m / 2 ^ 0 by simp), by omega, rfl, hown0, hiv', hbel', hWa⟩
            case round =>
              obtain ⟨j, y, A2, c2, hj, rfl, rfl, hy, hy64, rfl, hown, hiv, hbel, hWs⟩ := hrel
              by_cases hjk : j < k
              · obtain ⟨hs1, hs2⟩ := side_next m j y hy.out
                have hs1' := Lib.hid hs1
                have hs2' := Lib.hid hs2
                clear hs1 hs2
                go_wp2_with (at_builtin; refine app1 _ rfl _ _ rfl W _ _ rfl (hown.alloc _) j (sideL_len m j) ⟨wr.heap.size, 0, none⟩ ((y : Int) % 2) rfl (by simp) (by omega) (by simp; omega) ?_; intro A3 c3 w3 hown3 hgr3)
                have hiv3 := (hiv.below ((Below.refl wr.heap.size wr).alloc (Nat.le_refl _) (Obj.cells #[.int .i64 ((y : Int) % 2)] 3)) hWs).own (hown.alloc _) hgr3 (Nat.le_refl _)
                have hbel3 : Below w.heap.size w w3 := Own.grownBelow (hown.alloc _) hgr3 (hbel.alloc hbel.size _) hWw (by simp; omega)
                have hsz3 := hgr3.size
                rw [hs1'.out] at hown3
                clear hgr3
                go_wp2_with fail
                go_roundw
                case rel => exact ⟨j + 1, y / 2, A3, c3, by omega, by go_num, by go_num, hs2'.out, by omega, rfl, hown3, hiv3, hbel3, by simp at hsz3; omega⟩
                case measure => simp [intOf]; omega
              · obtain rfl : j = k := by omega
                have hc := HC.out m A2 c2 wr ((hL.below hbel).more hbel.size) (hown.iv.more (Nat.zero_le _) (Nat.le_refl _))
                rw [sideL_len] at hc
                replace hc := Lib.hid hc
                go_wp2_with fail
                refine hc.out.mono ?_
                rintro e w4 ⟨t, rfl, ht, hb4⟩
                have hstep := HS.out m t ht
                rw [← hC.out] at hstep
                have hown4 := hown.below hb4
                have hiv4 := hiv.below hb4 hWs
                have hbel4 := hbel.trans (hb4.mono hbel.size)
                have hsz4 := hb4.size
                clear hb4 ht
                rcases hstep with ⟨h0, hlt, e1, e2⟩ | ⟨hno, e1, e2⟩
                · replace e1 := Lib.hid e1
                  replace e2 := Lib.hid e2
                  have hiv5 := hown4.iv.more hWw (Nat.le_refl _)
                  by_cases hC0 : C < 0
                  · clear hlt
                    go_wp2_with fail
                    go_roundw
                    case rel => exact ⟨m + 1, A2, c2, sideL m j, by omega, by go_num, by rw [sideL_len], e1.out.symm, by rw [e2.out], hiv5, hbel4⟩
                    case measure => simp [intOf]; omega
                  · have hlt' : t < C := by omega
                    clear hlt
                    go_wp2_with fail
                    go_roundw
                    case rel => exact ⟨m + 1, A2, c2, sideL m j, by omega, by go_num, by rw [sideL_len], e1.out.symm, by rw [e2.out], hiv5, hbel4⟩
                    case measure => simp [intOf]; omega
                · replace e1 := Lib.hid e1
                  replace e2 := Lib.hid e2
                  by_cases h0 : 0 ≤ t
                  · have hC0 : 0 ≤ C := by omega
                    have htC : C ≤ t := by omega
                    clear hno
                    go_wp2_with fail
                    go_roundw
                    case rel => exact ⟨m + 1, A', c', xs, by omega, by go_num, rfl, hxs.out.trans e1.out.symm, by rw [e2.out], hiv4.more (Nat.le_refl _) (by omega), hbel4⟩
                    case measure => simp [intOf]; omega
                  · have h0' : t < 0 := by omega
                    clear hno h0
                    go_wp2_with fail
                    go_roundw
                    case rel => exact ⟨m + 1, A', c', xs, by omega, by go_num, rfl, hxs.out.trans e1.out.symm, by rw [e2.out], hiv4.more (Nat.le_refl _) (by omega), hbel4⟩
                    case measure => simp [intOf]; omega
          · obtain rfl : m = z := by omega
            go_wp2_with fail
            go_ret2
            exact ⟨A', c', xs, true, rfl, .inl ⟨H1.out, by rw [hxs.out, Int.toNat_natCast, Int.toNat_natCast, Int.toNat_natCast, hz.out], rfl⟩, hiv, hbel⟩
end Go.Proofs.Ytkcfclkpbmeaiaa
