/- Cuts: reference and program walked. -/
import Derived.Test.YtkcfclkpbmeaiaaLoad2
import Derived.Test.YtkcfclkpbmeaiaaCut
import Derived.Test.YtkcfclkpbmeaiaaIm
namespace Go.Proofs.Ytkcfclkpbmeaiaa
set_option linter.unusedVariables false
set_option linter.unusedSimpArgs false
open Go.RowKit
theorem ofInt_i64 (a : Nat) (ha : a < 9223372036854775808) : (BitVec.ofInt 64 (a : Int)).toNat = a := by
  rw [BitVec.ofInt_natCast, BitVec.toNat_ofNat]; exact Nat.mod_eq_of_lt (by omega)
theorem i64_or_nat (a b : Nat) (ha : a < 9223372036854775808) (hb : b < 9223372036854775808) : bits .or .i64 (a : Int) (b : Int) = ((a ||| b : Nat) : Int) := by
  have hx : a ||| b < 2 ^ 63 := Nat.or_lt_two_pow (by omega) (by omega)
  show IntKind.i64.wrap ((BitVec.ofInt 64 (a : Int) ||| BitVec.ofInt 64 (b : Int)).toNat : Int) = _
  rw [BitVec.toNat_or, ofInt_i64 a ha, ofInt_i64 b hb, IntKind.wrap_i64]
  omega
theorem i64_and_nat (a b : Nat) (ha : a < 9223372036854775808) (hb : b < 9223372036854775808) : bits .and .i64 (a : Int) (b : Int) = ((a &&& b : Nat) : Int) := by
  have hx : a &&& b < 2 ^ 63 := Nat.and_lt_two_pow _ (by omega)
  show IntKind.i64.wrap ((BitVec.ofInt 64 (a : Int) &&& BitVec.ofInt 64 (b : Int)).toNat : Int) = _
  rw [BitVec.toNat_and, ofInt_i64 a ha, ofInt_i64 b hb, IntKind.wrap_i64]
  omega
theorem bit_and (m p : Nat) (hm : m < 4611686018427387904) : bits .and .i64 ((m : Int) / 2 ^ p) 1 = if m.testBit p then 1 else 0 := by
  have e : (m : Int) / 2 ^ p = ((m / 2 ^ p : Nat) : Int) := by rw [Int.natCast_ediv]; simp
  have hle : m / 2 ^ p ≤ m := Nat.div_le_self _ _
  have := i64_and_nat (m / 2 ^ p) 1 (by omega) (by omega)
  rw [e, show (1 : Int) = ((1 : Nat) : Int) from rfl, this, Nat.and_one_is_mod, Nat.testBit_eq_decide_div_mod_eq]
  by_cases h : m / 2 ^ p % 2 = 1
  · rw [h]; simp
  · rw [show m / 2 ^ p % 2 = 0 by omega]; simp
theorem bit_t {m p : Nat} (hm : m < 4611686018427387904) (h : m.testBit p = true) : bits .and .i64 ((m : Int) / 2 ^ p) 1 = 1 := by rw [bit_and m p hm, h]; rfl
theorem bit_f {m p : Nat} (hm : m < 4611686018427387904) (h : m.testBit p = false) : bits .and .i64 ((m : Int) / 2 ^ p) 1 = 0 := by rw [bit_and m p hm, h]; rfl
theorem bit_01 {m p : Nat} (hm : m < 4611686018427387904) : ∃ u : Int, bits .and .i64 ((m : Int) / 2 ^ p) 1 = u ∧ ((u = 0 ∧ m.testBit p = false) ∨ (u = 1 ∧ m.testBit p = true)) := by
  cases h : m.testBit p with
  | false => exact ⟨0, bit_f hm h, .inl ⟨rfl, rfl⟩⟩
  | true => exact ⟨1, bit_t hm h, .inr ⟨rfl, rfl⟩⟩
theorem cutVal_take_bound {n : Nat} {L : List Ln} (hL : netIn n L) (hlen : L.length ≤ 10) (S : Int → Bool) (k : Nat) : 0 ≤ cutVal S (L.take k) ∧ cutVal S (L.take k) ≤ 90 := by
  have := cutVal_bound (hL.take k) S
  have h3 := List.length_take_le' k L
  omega
set_option maxRecDepth 100000 in
theorem iCut (A : Option Addr) (c : Nat) (L : List Ln) (m : Nat) (n : Nat) (hn6 : n ≤ 6) (hn : netIn n L) (hL1 : L.length ≤ 10) (hm : m < 4611686018427387904) (w : World) (hi : Nat) (hiw : hi ≤ w.heap.size) (hL : Lns w hi A L) :
    Calls Try.prog 67 #[.slice A L.length c, .int .i64 m] w fun e w' => e = .returned (.int .i64 (cutVal (sideB m) L)) ∧ Below w.heap.size w w' := by
  have HB := Lib.hid (fun k => cutVal_take_bound hn hL1 (sideB m) k)
  obtain ⟨len, hlen⟩ : ∃ k, k = L.length := ⟨_, rfl⟩
  rw [← hlen] at hL1 ⊢
  have Hm := Lib.hid hlen
  clear hlen
  go_enter Try.func67, Try.ntmps67
  go_wp2_with fail
  go_loopw [5, 10] (fun t i wr => ∃ k : Nat, k ≤ len ∧ i = .int .i64 k ∧ t = .int .i64 (cutVal (sideB m) (L.take k)) ∧ Below w.heap.size w wr) (fun _ i _ => len - (intOf i).toNat)
  case atStart => exact ⟨0, by omega, rfl, by simp [cutVal], Below.refl _ _⟩
  case round =>
    obtain ⟨k, hk, rfl, rfl, hbel⟩ := hrel
    by_cases hlt : k < len
    · obtain ⟨b, off, rfl, hb, hc⟩ := hL (by rw [← Hm.out]; omega)
      obtain ⟨l, hl⟩ : ∃ l, L[k]? = some l := ⟨L[k]'(by rw [← Hm.out]; exact hlt), List.getElem?_eq_getElem _⟩
      obtain ⟨c1, c2, c3⟩ := hc k l hl
      have hstep := cutVal_take (sideB m) hl
      have hin := hn l (List.mem_of_getElem? hl)
      obtain ⟨p, q, ch⟩ := l
      simp only at c1 c2 c3 hin
      obtain ⟨hp0, hp1, hq0, hq1, hpq, hc1, hc9⟩ := hin
      obtain ⟨p, rfl⟩ := Int.eq_ofNat_of_zero_le hp0
      obtain ⟨q, rfl⟩ := Int.eq_ofNat_of_zero_le hq0
      have hp6 : p < 6 := by omega
      have hq6 : q < 6 := by omega
      have d1 := (hbel.cell (p := ⟨b, _, none⟩) (show b < w.heap.size by omega)).trans c1
      have d2 := (hbel.cell (p := ⟨b, _, none⟩) (show b < w.heap.size by omega)).trans c2
      have d3 := (hbel.cell (p := ⟨b, _, none⟩) (show b < w.heap.size by omega)).trans c3
      have hbd := HB.out k
      obtain ⟨t, ht⟩ : ∃ t, t = cutVal (sideB m) (L.take k) := ⟨_, rfl⟩
      rw [← ht] at hstep hbd ⊢
      obtain ⟨hbd1, hbd2⟩ := hbd
      have hct : cutTerm (sideB m) ⟨(p : Int), (q : Int), ch⟩ = if m.testBit p = m.testBit q then 0 else ch := rfl
      rw [hct] at hstep
      replace hstep := Lib.hid hstep
      have hbl : Below w.heap.size w (wr.alloc (Obj.cells #[.int .i64 p, .int .i64 q, .int .i64 ch] 36)) := hbel.alloc hbel.size _
      clear hc hl ht hct c1 c2 c3
      obtain ⟨u, hu, hu'⟩ := bit_01 (p := p) hm
      obtain ⟨v, hv, hv'⟩ := bit_01 (p := q) hm
      rcases hu' with ⟨rfl, tu⟩ | ⟨rfl, tu⟩ <;> rcases hv' with ⟨rfl, tv⟩ | ⟨rfl, tv⟩
      all_goals
        replace tu := Lib.hid tu
        replace tv := Lib.hid tv
        go_wp2_with fail
        go_quiet (fail)
        go_wp2_with fail
        go_roundw
        case rel => exact ⟨k + 1, by omega, by go_num, by rw [hstep.out, tu.out, tv.out]; exact congrArg (Value.int .i64) (by simp), below_drewN hbl _⟩
        case measure => simp [intOf]; omega
    · obtain rfl : k = len := by omega
      go_wp2_with fail
      go_ret
      exact ⟨ret_int (by rw [List.take_of_length_le (by rw [← Hm.out]; exact Nat.le_refl _)]), hbel⟩
end Go.Proofs.Ytkcfclkpbmeaiaa
