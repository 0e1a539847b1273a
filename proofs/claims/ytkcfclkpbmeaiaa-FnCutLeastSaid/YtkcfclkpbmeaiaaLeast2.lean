/- The program's CutLeast, walked. -/
import Derived.Test.YtkcfclkpbmeaiaaLeast
namespace Go.Proofs.Ytkcfclkpbmeaiaa
set_option linter.unusedVariables false
set_option linter.unusedSimpArgs false
open Go.RowKit
def bestI (L : List Ln) (p q k : Nat) : Int := match leastTo L p q k with
  | none => -1
  | some b => (b : Int)
theorem bestI_skip {L : List Ln} {p q k : Nat} (h : okSide p q k = false) : bestI L p q (k + 1) = bestI L p q k := by
  unfold bestI; rw [leastTo, h, if_neg (by simp)]
theorem bestI_step {n : Nat} {L : List Ln} (hL : netIn n L) {p q k : Nat} (h : okSide p q k = true) :
    (bestI L p q k = -1 ∧ bestI L p q (k + 1) = k) ∨ ∃ b : Nat, b < k ∧ bestI L p q k = b ∧ ((cutVal (sideB k) L < cutVal (sideB b) L ∧ bestI L p q (k + 1) = k) ∨ (¬ cutVal (sideB k) L < cutVal (sideB b) L ∧ bestI L p q (k + 1) = b)) := by
  unfold bestI
  rw [leastTo, h, if_pos rfl]
  cases hl : leastTo L p q k with
  | none => exact .inl ⟨rfl, rfl⟩
  | some b =>
    refine .inr ⟨b, (leastTo_some hl).1, rfl, ?_⟩
    simp only
    by_cases hlt : cutVal (sideB k) L < cutVal (sideB b) L
    · rw [if_pos hlt]; exact .inl ⟨hlt, rfl⟩
    · rw [if_neg hlt]; exact .inr ⟨hlt, rfl⟩
theorem bestI_bound (L : List Ln) (p q k : Nat) : -1 ≤ bestI L p q k ∧ bestI L p q k ≤ k := by
  unfold bestI
  cases hl : leastTo L p q k with
  | none => simp only; omega
  | some b => have := (leastTo_some hl).1; simp only; omega
theorem shl_1 (k z : Nat) (hz : z = 2 ^ k) (h64 : z ≤ 64) : wrap64 ((2 : Int) ^ k) = (z : Int) := by
  have e : (2 : Int) ^ k = ((2 ^ k : Nat) : Int) := by simp
  rw [e, ← hz, IntWalk.wrap64_in _ ⟨by omega, by omega⟩]
set_option maxRecDepth 100000 in
theorem iCutLeast (n : Int) (A : Option Addr) (c : Nat) (L : List Ln) (p q : Int) (hL1 : L.length ≤ 1048576) (w : World) (hL : Lns w w.heap.size A L) :
    Calls Try.prog 34 #[.int .i64 n, .slice A L.length c, .int .i64 p, .int .i64 q] w (SlPost (LeastR n L p q) w) := by
  have hT := iTwo n A c L p q hL1 w hL
  cases h1 : twoOk n L p q with
  | false =>
    rw [h1] at hT
    have HT := Lib.hid hT
    have H1 := Lib.hid h1
    clear h1 hT
    go_enter Try.func34, Try.ntmps34
    go_wp2_with fail
    refine HT.out.mono ?_
    rintro e w1 ⟨rfl, hb⟩
    go_wp2_with fail
    go_ret2
    exact SlPost.mk (.inr ⟨H1.out, rfl, rfl⟩) (Own.nil _ _) hb
  | true =>
    obtain ⟨h2, hp0, hp1, hq0, hq1, hpq⟩ := twoOk_n h1
    obtain ⟨n2, n6, hlen10, hin⟩ := netOk_n h2
    rw [h1] at hT
    have HT := Lib.hid hT
    obtain ⟨nn, rfl⟩ := Int.eq_ofNat_of_zero_le (by omega : 0 ≤ n)
    obtain ⟨p, rfl⟩ := Int.eq_ofNat_of_zero_le hp0
    obtain ⟨q, rfl⟩ := Int.eq_ofNat_of_zero_le hq0
    rw [Int.toNat_natCast] at hin
    have HC := Lib.hid (fun m hm w hi hiw hL => iCut A c L m nn (by omega) hin hlen10 hm w hi hiw hL)
    have HS := Lib.hid (fun k h => bestI_step hin (p := p) (q := q) (k := k) h)
    have HL := Lib.hid (least_is hin (p := p) (q := q) (by omega) (by omega) (by omega))
    have H1 := Lib.hid h1
    have hz64 : 2 ^ nn ≤ 64 := Nat.le_trans (Nat.pow_le_pow_right (by omega) (by omega : nn ≤ 6)) (by decide)
    obtain ⟨z, hz⟩ : ∃ z, z = 2 ^ nn := ⟨_, rfl⟩
    rw [← hz] at hz64
    have hshl := shl_1 nn z hz hz64
    replace hz := Lib.hid hz
    have hpn : p < 6 := by omega
    have hqn : q < 6 := by omega
    have hnn6 : nn ≤ 6 := by omega
    clear hT h1 h2
    go_enter Try.func34, Try.ntmps34
    go_wp2_with fail
    refine HT.out.mono ?_
    rintro e w1 ⟨rfl, hb1⟩
    go_wp2_with fail
    rw [hshl]
    go_loopw [10, 11, 22] (fun best _ i wr => ∃ m : Nat, m ≤ z ∧ i = .int .i64 m ∧ best = .int .i64 (bestI L p q m) ∧ Below w.heap.size w wr) (fun _ _ i _ => z - (intOf i).toNat)
    case atStart => exact ⟨0, by omega, rfl, rfl, hb1⟩
    case round =>
      obtain ⟨m, hm, rfl, rfl, hbel⟩ := hrel
      have hbb := bestI_bound L p q m
      obtain ⟨hbb1, hbb2⟩ := hbb
      by_cases hmz : m < z
      · obtain ⟨u, hu, hu'⟩ := bit_01 (m := m) (p := p) (by omega)
        obtain ⟨v, hv, hv'⟩ := bit_01 (m := m) (p := q) (by omega)
        rcases hu' with ⟨rfl, tu⟩ | ⟨rfl, tu⟩
        · have hsk := Lib.hid (bestI_skip (L := L) (p := p) (q := q) (k := m) (by unfold okSide; rw [tu]; rfl))
          clear tu hv hv'
          go_wp2_with fail
          go_roundw
          case rel => exact ⟨m + 1, by omega, by go_num, by rw [hsk.out], hbel⟩
          case measure => simp [intOf]; omega
        · rcases hv' with ⟨rfl, tv⟩ | ⟨rfl, tv⟩
          · have hst := HS.out m (by unfold okSide; rw [tu, tv]; rfl)
            have hc1 := HC.out m (by omega)
            clear tu tv
            rcases hst with ⟨e1, e2⟩ | ⟨b, hbm, e1, hcase⟩
            · rw [e1]
              replace e2 := Lib.hid e2
              clear e1 hbb1 hbb2 hc1
              go_wp2_with fail
              go_roundw
              case rel => exact ⟨m + 1, by omega, by go_num, by rw [e2.out], hbel⟩
              case measure => simp [intOf]; omega
            · rw [e1]
              have hc2 := HC.out b (by omega)
              obtain ⟨x, hx⟩ : ∃ x, x = cutVal (sideB m) L := ⟨_, rfl⟩
              obtain ⟨y, hy⟩ : ∃ y, y = cutVal (sideB b) L := ⟨_, rfl⟩
              rw [← hx] at hc1 hcase
              rw [← hy] at hc2 hcase
              replace hc1 := Lib.hid hc1
              replace hc2 := Lib.hid hc2
              clear hx hy e1 hbb1 hbb2
              have hb0 : decide ((b : Int) < 0) = false := decide_eq_false (by omega)
              go_wp2_with fail
              refine (hc1.out _ _ hbel.size (hL.below hbel)).mono ?_
              rintro e w2 ⟨rfl, hb2⟩
              replace hb2 := hbel.trans (hb2.mono hbel.size)
              go_wp2_with fail
              refine (hc2.out _ _ hb2.size (hL.below hb2)).mono ?_
              rintro e w3 ⟨rfl, hb3⟩
              replace hb3 := hb2.trans (hb3.mono hb2.size)
              clear hb2 hbel
              rcases hcase with ⟨hlt, e2⟩ | ⟨hlt, e2⟩
              · have hd : decide (x < y) = true := decide_eq_true (by omega)
                replace e2 := Lib.hid e2
                clear hlt
                go_wp2_with fail
                go_roundw
                case rel => exact ⟨m + 1, by omega, by go_num, by rw [e2.out], hb3⟩
                case measure => simp [intOf]; omega
              · have hge : y ≤ x := by omega
                have hd : decide (x < y) = false := decide_eq_false (by omega)
                replace e2 := Lib.hid e2
                clear hlt
                go_wp2_with fail
                go_roundw
                case rel => exact ⟨m + 1, by omega, by go_num, by rw [e2.out], hb3⟩
                case measure => simp [intOf]; omega
          · have hsk := Lib.hid (bestI_skip (L := L) (p := p) (q := q) (k := m) (by unfold okSide; rw [tu, tv]; rfl))
            clear tu tv
            go_wp2_with fail
            go_roundw
            case rel => exact ⟨m + 1, by omega, by go_num, by rw [hsk.out], hbel⟩
            case measure => simp [intOf]; omega
      · obtain rfl : m = z := by omega
        obtain ⟨b, hlb, hbz, _⟩ := HL.out
        rw [← hz.out] at hlb hbz
        have eb : bestI L p q m = (b : Int) := by unfold bestI; rw [hlb]
        rw [eb]
        have HLL : Hid (leastL nn L p q (2 ^ nn) = sideL b nn) := by show _ = _; rw [← hz.out, leastL, hlb]
        have hmk := fun w => mk_row (P := Try.prog) 24 3 (.int .i64 0) 8 Try.underlying24 intInfo rfl (nn : Int) nn rfl (by omega) (by omega) w
        have hrow0 : Hid (∀ w : World, Row (w.alloc (Obj.cells (madeCells #[.int .i64 0] nn) 3)) w.heap.size 3 (ivs (List.replicate nn 0))) := fun w => by
          refine Row.newS _ 3 _ rfl ?_
          rw [madeCells_toList', ivs_zero]
        clear eb hlb hbb1 hbb2
        go_wp2_with fail
        obtain ⟨wo, hwo⟩ : ∃ wo : World, wo = wr := ⟨_, rfl⟩
        rw [← hwo] at hbel ⊢
        clear hwo
        go_loopw [13, 56] (fun _ i wi => ∃ (j : Nat) (M : List Int), j ≤ nn ∧ i = .int .i64 j ∧ Hid (M.length = nn ∧ ∀ i, i < j → M[i]? = (sideL b nn)[i]?) ∧ Row wi wo.heap.size 3 (ivs M) ∧ Below w.heap.size w wi) (fun _ i _ => nn - (intOf i).toNat)
        case atStart => exact ⟨0, List.replicate nn 0, by omega, rfl, ⟨by simp, fun j hj => by omega⟩, hrow0.out wo, hbel.alloc hbel.size _⟩
        case round =>
          obtain ⟨j, M, hj, rfl, hM, hr, hbl⟩ := hrel
          by_cases hjn : j < nn
          · obtain ⟨x, hx⟩ : ∃ x, M[j]? = some x := ⟨M[j]'(by rw [hM.out.1]; exact hjn), List.getElem?_eq_getElem _⟩
            have e1 := hr.cellI (ivs_get hx)
            have f1 := hr.frozen j
            clear hx
            have hws := hbel.size
            have nx : ∀ y : Int, (sideL b nn)[j]? = some y → Hid ((M.set j y).length = nn ∧ ∀ i, i < j + 1 → (M.set j y)[i]? = (sideL b nn)[i]?) := fun y hy => ⟨by rw [List.length_set]; exact hM.out.1, fun i hi => by
              rcases (by omega : i < j ∨ i = j) with h | rfl
              · rw [List.getElem?_set_ne (by omega)]; exact hM.out.2 i h
              · rw [List.getElem?_set_self (by rw [hM.out.1]; exact hjn)]; exact hy.symm⟩
            obtain ⟨u, hu, hu'⟩ := bit_01 (m := b) (p := j) (by omega)
            rcases hu' with ⟨rfl, tu⟩ | ⟨rfl, tu⟩
            · have hM' := nx 0 (by rw [sideL_get hjn, tu]; rfl)
              clear nx tu
              go_wp2_with fail
              go_roundw
              case rel => exact ⟨j + 1, M.set j 0, by omega, by go_num, hM', (hr.set _ _).eq (ivs_set M j 0), hbl.setCell hws _⟩
              case measure => simp [intOf]; omega
            · have hM' := nx 1 (by rw [sideL_get hjn, tu]; rfl)
              clear nx tu
              go_wp2_with fail
              go_roundw
              case rel => exact ⟨j + 1, M.set j 1, by omega, by go_num, hM', (hr.set _ _).eq (ivs_set M j 1), hbl.setCell hws _⟩
              case measure => simp [intOf]; omega
          · obtain rfl : j = nn := by omega
            have hML : M = sideL b j := by
              apply List.ext_getElem?
              intro i
              rcases Nat.lt_or_ge i j with h | h
              · exact hM.out.2 i h
              · rw [List.getElem?_eq_none (by rw [hM.out.1]; exact h), List.getElem?_eq_none (by rw [sideL_len]; exact h)]
            subst hML
            have hown := hr.own hbel.size (by rw [sideL_len]; unfold maxLen; omega)
            rw [sideL_len] at hown
            go_wp2_with fail
            go_ret2
            exact SlPost.mk (xs := sideL b j) (.inl ⟨H1.out, by rw [Int.toNat_natCast, Int.toNat_natCast, Int.toNat_natCast, HLL.out], rfl⟩) hown hbl
end Go.Proofs.Ytkcfclkpbmeaiaa
