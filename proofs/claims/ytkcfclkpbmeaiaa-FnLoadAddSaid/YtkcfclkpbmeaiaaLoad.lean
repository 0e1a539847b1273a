/- Two stations of a net, loads: reference and program walked. -/
import Derived.Test.YtkcfclkpbmeaiaaNet
import Derived.Test.YtkcfclkpbmeaiaaWay
namespace Go.Proofs.Ytkcfclkpbmeaiaa
set_option linter.unusedVariables false
set_option linter.unusedSimpArgs false
open Go.RowKit
def twoOk (n : Int) (L : List Ln) (p q : Int) : Bool := netOk n L && (inB p 0 (n - 1) && (inB q 0 (n - 1) && !(p == q)))
theorem netOk_n {n : Int} {L : List Ln} (h : netOk n L = true) : 2 ≤ n ∧ n ≤ 6 ∧ L.length ≤ 10 ∧ netIn n.toNat L := by
  unfold netOk at h
  simp only [Bool.and_eq_true, List.all_eq_true, decide_eq_true_eq, inB_iff] at h
  obtain ⟨⟨h1, h2⟩, h3⟩ := h
  refine ⟨h2.1, h2.2, h3, fun l hl => ?_⟩
  have h4 := h1 l hl
  unfold lnOk at h4
  simp only [Bool.and_eq_true, inB_iff, Bool.not_eq_true', beq_eq_false_iff_ne] at h4
  omega
theorem twoOk_n {n : Int} {L : List Ln} {p q : Int} (h : twoOk n L p q = true) : netOk n L = true ∧ 0 ≤ p ∧ p < n ∧ 0 ≤ q ∧ q < n ∧ p ≠ q := by
  unfold twoOk at h
  simp only [Bool.and_eq_true, inB_iff, Bool.not_eq_true', beq_eq_false_iff_ne] at h
  exact ⟨h.1, by omega, by omega, by omega, by omega, h.2.2.2⟩
theorem sTwo (n : Int) (A : Option Addr) (c : Nat) (L : List Ln) (p q : Int) (hL1 : L.length ≤ 1048576) (w : World) (hL : Lns w w.heap.size A L) :
    Calls Try.prog 55 #[.int .i64 n, .slice A L.length c, .int .i64 p, .int .i64 q] w fun e w' => e = .returned (.bool (twoOk n L p q)) ∧ Below w.heap.size w w' := by
  obtain ⟨R, hR⟩ : ∃ R, R = twoOk n L p q := ⟨_, rfl⟩
  rw [← hR]
  have HR := Lib.hid hR
  clear hR
  have hN := specNet n A c L hL1 w hL
  cases h1 : netOk n L with
  | false =>
    rw [h1] at hN
    have H1 := Lib.hid h1
    have HN := Lib.hid hN
    clear h1 hN
    go_enter Try.func55, Try.ntmps55
    go_wp2_with fail
    refine HN.out.mono ?_
    rintro e w1 ⟨rfl, hb⟩
    go_wp2_with fail
    go_ret
    exact ⟨ret_bool (by rw [HR.out, twoOk, H1.out]; rfl), hb⟩
  | true =>
    obtain ⟨n2, n6, _, _⟩ := netOk_n h1
    rw [h1] at hN
    have H1 := Lib.hid h1
    have HN := Lib.hid hN
    clear h1 hN
    obtain ⟨r2, h2⟩ : ∃ r, inB p 0 (n - 1) = r := ⟨_, rfl⟩
    replace h2 := Lib.hid h2
    obtain ⟨r3, h3⟩ : ∃ r, inB q 0 (n - 1) = r := ⟨_, rfl⟩
    replace h3 := Lib.hid h3
    cases r2 with
    | false =>
      go_enter Try.func55, Try.ntmps55
      go_wp2_with fail
      refine HN.out.mono ?_
      rintro e w1 ⟨rfl, hb⟩
      go_wp2_with fail
      refine (l6In_b _ _ _ _ h2.out _).mono ?_
      rintro e w2 ⟨rfl, rfl⟩
      go_wp2_with fail
      go_ret
      exact ⟨ret_bool (by rw [HR.out, twoOk, H1.out, h2.out]; rfl), hb⟩
    | true =>
      cases r3 with
      | false =>
        go_enter Try.func55, Try.ntmps55
        go_wp2_with fail
        refine HN.out.mono ?_
        rintro e w1 ⟨rfl, hb⟩
        go_wp2_with fail
        refine (l6In_b _ _ _ _ h2.out _).mono ?_
        rintro e w2 ⟨rfl, rfl⟩
        go_wp2_with fail
        refine (l6In_b _ _ _ _ h3.out _).mono ?_
        rintro e w2 ⟨rfl, rfl⟩
        go_wp2_with fail
        go_ret
        exact ⟨ret_bool (by rw [HR.out, twoOk, H1.out, h2.out, h3.out]; rfl), hb⟩
      | true =>
        go_enter Try.func55, Try.ntmps55
        go_wp2_with fail
        refine HN.out.mono ?_
        rintro e w1 ⟨rfl, hb⟩
        go_wp2_with fail
        refine (l6In_b _ _ _ _ h2.out _).mono ?_
        rintro e w2 ⟨rfl, rfl⟩
        go_wp2_with fail
        refine (l6In_b _ _ _ _ h3.out _).mono ?_
        rintro e w2 ⟨rfl, rfl⟩
        go_wp2_with fail
        go_ret
        exact ⟨ret_bool (by rw [HR.out, twoOk, H1.out, h2.out, h3.out]; rfl), hb⟩
theorem iTwo (n : Int) (A : Option Addr) (c : Nat) (L : List Ln) (p q : Int) (hL1 : L.length ≤ 1048576) (w : World) (hL : Lns w w.heap.size A L) :
    Calls Try.prog 52 #[.int .i64 n, .slice A L.length c, .int .i64 p, .int .i64 q] w fun e w' => e = .returned (.bool (twoOk n L p q)) ∧ Below w.heap.size w w' := by
  obtain ⟨R, hR⟩ : ∃ R, R = twoOk n L p q := ⟨_, rfl⟩
  rw [← hR]
  have HR := Lib.hid hR
  clear hR
  have hN := implNet n A c L hL1 w hL
  cases h1 : netOk n L with
  | false =>
    rw [h1] at hN
    have H1 := Lib.hid h1
    have HN := Lib.hid hN
    clear h1 hN
    go_enter Try.func52, Try.ntmps52
    go_wp2_with fail
    refine HN.out.mono ?_
    rintro e w1 ⟨rfl, hb⟩
    go_wp2_with fail
    go_ret
    exact ⟨ret_bool (by rw [HR.out, twoOk, H1.out]; rfl), hb⟩
  | true =>
    obtain ⟨n2, n6, _, _⟩ := netOk_n h1
    rw [h1] at hN
    have H1 := Lib.hid h1
    have HN := Lib.hid hN
    clear h1 hN
    obtain ⟨r2, h2⟩ : ∃ r, inB p 0 (n - 1) = r := ⟨_, rfl⟩
    replace h2 := Lib.hid h2
    obtain ⟨r3, h3⟩ : ∃ r, inB q 0 (n - 1) = r := ⟨_, rfl⟩
    replace h3 := Lib.hid h3
    cases r2 with
    | false =>
      go_enter Try.func52, Try.ntmps52
      go_wp2_with fail
      refine HN.out.mono ?_
      rintro e w1 ⟨rfl, hb⟩
      go_wp2_with fail
      refine (within_b _ _ _ _ h2.out _).mono ?_
      rintro e w2 ⟨rfl, rfl⟩
      go_wp2_with fail
      go_ret
      exact ⟨ret_bool (by rw [HR.out, twoOk, H1.out, h2.out]; rfl), hb⟩
    | true =>
      cases r3 with
      | false =>
        go_enter Try.func52, Try.ntmps52
        go_wp2_with fail
        refine HN.out.mono ?_
        rintro e w1 ⟨rfl, hb⟩
        go_wp2_with fail
        refine (within_b _ _ _ _ h2.out _).mono ?_
        rintro e w2 ⟨rfl, rfl⟩
        go_wp2_with fail
        refine (within_b _ _ _ _ h3.out _).mono ?_
        rintro e w2 ⟨rfl, rfl⟩
        go_wp2_with fail
        go_ret
        exact ⟨ret_bool (by rw [HR.out, twoOk, H1.out, h2.out, h3.out]; rfl), hb⟩
      | true =>
        go_enter Try.func52, Try.ntmps52
        go_wp2_with fail
        refine HN.out.mono ?_
        rintro e w1 ⟨rfl, hb⟩
        go_wp2_with fail
        refine (within_b _ _ _ _ h2.out _).mono ?_
        rintro e w2 ⟨rfl, rfl⟩
        go_wp2_with fail
        refine (within_b _ _ _ _ h3.out _).mono ?_
        rintro e w2 ⟨rfl, rfl⟩
        go_wp2_with fail
        go_ret
        exact ⟨ret_bool (by rw [HR.out, twoOk, H1.out, h2.out, h3.out]; rfl), hb⟩
theorem netIn.take {n : Nat} {L : List Ln} (h : netIn n L) (k : Nat) : netIn n (L.take k) := fun l hl => h l (List.mem_of_mem_take hl)
theorem caps.take {L : List Ln} {f : List Int} (h : caps L f) (k : Nat) : caps (L.take k) (f.take k) :=
  caps_mk fun j l x hl hx => by
    rw [List.getElem?_take] at hl hx
    by_cases hj : j < k
    · rw [if_pos hj] at hl hx; exact caps_get h hl hx
    · rw [if_neg hj] at hl; cases hl
theorem outAt_take_bound {n : Nat} {L : List Ln} {f : List Int} (hL : netIn n L) (hlen : L.length ≤ 10) (h : caps L f) (s : Int) (k : Nat) : -90 ≤ outAt (L.take k) (f.take k) s ∧ outAt (L.take k) (f.take k) s ≤ 90 := by
  have := outAt_bound (hL.take k) (h.take k) s
  have h2 := List.length_take_le k L
  have h3 := List.length_take_le' k L
  omega
set_option maxRecDepth 100000 in
theorem sOut (A : Option Addr) (c : Nat) (L : List Ln) (F : Option Addr) (cf : Nat) (f : List Int) (nn : Nat) (hn : netIn nn L) (hcaps : caps L f) (hlen : f.length = L.length) (hL1 : L.length ≤ 10) (s : Int) (w : World) (hi : Nat) (hL : Lns w hi A L) (hF : Iv w 0 hi F f) :
    Calls Try.prog 57 #[.slice A L.length c, .slice F f.length cf, .int .i64 s] w fun e w' => e = .returned (.int .i64 (outAt L f s)) ∧ w = w' := by
  have hbd := fun k => outAt_take_bound hn hL1 hcaps s k
  have hst := fun k l x (hl : L[k]? = some l) (hx : f[k]? = some x) => outAt_take s hl hx
  obtain ⟨R, hR⟩ : ∃ R, R = outAt L f s := ⟨_, rfl⟩
  rw [← hR]
  obtain ⟨m, hm⟩ : ∃ m, m = L.length := ⟨_, rfl⟩
  rw [hlen]
  rw [← hm] at hL1 hlen ⊢
  have HR := Lib.hid hR
  have Hm := Lib.hid hm
  have Hf := Lib.hid hlen
  have HB := Lib.hid hbd
  have HS := Lib.hid hst
  clear hR hm hlen hbd hst
  go_enter Try.func57, Try.ntmps57
  go_wp2_with fail
  go_loop [7, 8] (fun t i => ∃ k : Nat, k ≤ m ∧ i = .int .i64 k ∧ t = .int .i64 (outAt (L.take k) (f.take k) s)) (fun _ i => m - (intOf i).toNat)
  case atStart => exact ⟨0, by omega, rfl, by simp [outAt_nil]⟩
  case round =>
    obtain ⟨k, hk, rfl, rfl⟩ := hrel
    by_cases hlt : k < m
    · obtain ⟨b, off, rfl, hb, hc⟩ := hL (by rw [← Hm.out]; omega)
      obtain ⟨b', off', rfl, _, hb', hc'⟩ := hF (by rw [Hf.out]; omega)
      obtain ⟨l, hl⟩ : ∃ l, L[k]? = some l := ⟨L[k]'(by rw [← Hm.out]; exact hlt), List.getElem?_eq_getElem _⟩
      obtain ⟨x, hx⟩ : ∃ x, f[k]? = some x := ⟨f[k]'(by rw [Hf.out]; exact hlt), List.getElem?_eq_getElem _⟩
      obtain ⟨c1, c2, c3⟩ := hc k l hl
      have c4 := hc' k x hx
      have hcp := caps_get hcaps hl hx
      have hin := hn l (List.mem_of_getElem? hl)
      have hb1 := HB.out k
      have hstep := HS.out k l x hl hx
      obtain ⟨t, ht⟩ : ∃ t, t = outAt (L.take k) (f.take k) s := ⟨_, rfl⟩
      rw [← ht] at hb1 hstep ⊢
      obtain ⟨hb11, hb12⟩ := hb1
      obtain ⟨hcp1, hcp2⟩ := hcp
      have hx9 : -9 ≤ x ∧ x ≤ 9 := by omega
      obtain ⟨hx91, hx92⟩ := hx9
      have Hst := Lib.hid hstep
      clear hc hc' c3 hl hx hin hstep ht hcp1 hcp2
      by_cases ha : l.a = s
      · have ha' : (l.a == s) = true := bT ha
        by_cases hbs : l.b = s
        · have hb' : (l.b == s) = true := bT hbs
          have e : outTerm l x s = 0 := by unfold outTerm; rw [if_pos ha, if_pos hbs]; omega
          replace e := Lib.hid e
          clear ha hbs
          go_wp2_with fail
          go_round
          case rel => exact ⟨k + 1, by omega, by go_num, by rw [Hst.out, e.out]; exact congrArg (Value.int .i64) (by omega)⟩
          case measure => simp [intOf]; omega
        · have hb' : (l.b == s) = false := bF hbs
          have e : outTerm l x s = x := by unfold outTerm; rw [if_pos ha, if_neg hbs]; omega
          replace e := Lib.hid e
          clear ha hbs
          go_wp2_with fail
          go_round
          case rel => exact ⟨k + 1, by omega, by go_num, by rw [Hst.out, e.out]⟩
          case measure => simp [intOf]; omega
      · have ha' : (l.a == s) = false := bF ha
        by_cases hbs : l.b = s
        · have hb' : (l.b == s) = true := bT hbs
          have e : outTerm l x s = -x := by unfold outTerm; rw [if_neg ha, if_pos hbs]; omega
          replace e := Lib.hid e
          clear ha hbs
          go_wp2_with fail
          go_round
          case rel => exact ⟨k + 1, by omega, by go_num, by rw [Hst.out, e.out]; exact congrArg (Value.int .i64) (by omega)⟩
          case measure => simp [intOf]; omega
        · have hb' : (l.b == s) = false := bF hbs
          have e : outTerm l x s = 0 := by unfold outTerm; rw [if_neg ha, if_neg hbs]; omega
          replace e := Lib.hid e
          clear ha hbs
          go_wp2_with fail
          go_round
          case rel => exact ⟨k + 1, by omega, by go_num, by rw [Hst.out, e.out]; exact congrArg (Value.int .i64) (by omega)⟩
          case measure => simp [intOf]; omega
    · obtain rfl : k = m := by omega
      go_wp2_with fail
      go_ret
      exact ⟨ret_int (by rw [HR.out, List.take_of_length_le (by rw [← Hm.out]; exact Nat.le_refl _), List.take_of_length_le (by rw [Hf.out]; exact Nat.le_refl _)]), rfl⟩
end Go.Proofs.Ytkcfclkpbmeaiaa
