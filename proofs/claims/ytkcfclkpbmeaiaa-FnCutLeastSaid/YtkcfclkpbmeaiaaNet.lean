/- Nets: NetValid of the reference and of the program, walked. -/
import Derived.Test.YtkcfclkpbmeaiaaLn
namespace Go.Proofs.Ytkcfclkpbmeaiaa
set_option linter.unusedVariables false
set_option linter.unusedSimpArgs false
open Go.RowKit
/-- Is a line one of a net of n stations? -/
def lnOk (n : Int) (l : Ln) : Bool := inB l.a 0 (n - 1) && inB l.b 0 (n - 1) && !(l.a == l.b) && inB l.c 1 9
/-- NetValid. -/
def netOk (n : Int) (L : List Ln) : Bool := L.all (lnOk n) && inB n 2 6 && decide (L.length ≤ 10)

theorem netOk_bad {n : Int} {L : List Ln} {l : Ln} {k : Nat} (hl : L[k]? = some l) (h : lnOk n l = false) : netOk n L = false := by
  have : L.all (lnOk n) = false := by
    rw [List.all_eq_false]
    exact ⟨l, List.mem_of_getElem? hl, by rw [h]; simp⟩
  rw [netOk, this]; rfl
theorem all_take_step {α : Type} {l : List α} {p : α → Bool} {k : Nat} {c : α} (h : l[k]? = some c) (hk : (l.take k).all p = true) (hc : p c = true) : (l.take (k + 1)).all p = true := by
  rw [List.take_add_one, h]; simp [hk, hc]
set_option maxRecDepth 100000 in
theorem specNet_in (n : Int) (hn0 : 2 ≤ n) (hn1 : n ≤ 6) (A : Option Addr) (c : Nat) (L : List Ln) (hL1 : L.length ≤ 1048576) (w : World) (hL : Lns w w.heap.size A L) :
    Calls Try.prog 62 #[.int .i64 n, .slice A L.length c] w fun e w' => e = .returned (.bool (netOk n L)) ∧ Below w.heap.size w w' := by
  obtain ⟨R, hR⟩ : ∃ R, R = netOk n L := ⟨_, rfl⟩
  rw [← hR]
  obtain ⟨m, hm⟩ : ∃ m, m = L.length := ⟨_, rfl⟩
  rw [← hm] at hL1 ⊢
  have HR := Lib.hid hR
  have Hm := Lib.hid hm
  clear hR hm
  go_enter Try.func62, Try.ntmps62
  go_wp2_with fail
  go_loopw [5] (fun i wr => ∃ k : Nat, k ≤ m ∧ i = .int .i64 k ∧ Hid ((L.take k).all (lnOk n) = true) ∧ Below w.heap.size w wr) (fun i _ => m - (intOf i).toNat)
  case atStart => exact ⟨0, by omega, rfl, by simp [Hid], Below.refl _ _⟩
  case round =>
    obtain ⟨k, hk, rfl, hall, hbel⟩ := hrel
    by_cases hlt : k < m
    · obtain ⟨b, off, rfl, hb, hc⟩ := hL (by rw [← Hm.out]; omega)
      obtain ⟨l, hl⟩ : ∃ l, L[k]? = some l := ⟨L[k]'(by rw [← Hm.out]; exact hlt), List.getElem?_eq_getElem _⟩
      obtain ⟨c1, c2, c3⟩ := hc k l hl
      have d1 := (hbel.cell (p := ⟨b, _, none⟩) hb).trans c1
      have d2 := (hbel.cell (p := ⟨b, _, none⟩) hb).trans c2
      have d3 := (hbel.cell (p := ⟨b, _, none⟩) hb).trans c3
      replace hl := Lib.hid hl
      clear c1 c2 c3 hc
      obtain ⟨r1, h1⟩ : ∃ r, inB l.a 0 (n - 1) = r := ⟨_, rfl⟩
      replace h1 := Lib.hid h1
      go_wp2_with fail
      refine (l6In_b _ _ _ _ h1.out _).mono ?_
      rintro e w4 ⟨rfl, rfl⟩
      have hbl : Below w.heap.size w (wr.alloc (Obj.cells #[.int .i64 l.a, .int .i64 l.b, .int .i64 l.c] 36)) := hbel.alloc hbel.size _
      cases r1 with
      | false =>
        go_wp2_with fail
        go_ret
        exact ⟨ret_bool (by rw [HR.out, netOk_bad hl.out (by rw [lnOk, h1.out]; rfl)]), hbl⟩
      | true =>
        obtain ⟨r2, h2⟩ : ∃ r, inB l.b 0 (n - 1) = r := ⟨_, rfl⟩
        replace h2 := Lib.hid h2
        go_wp2_with fail
        refine (l6In_b _ _ _ _ h2.out _).mono ?_
        rintro e w4 ⟨rfl, rfl⟩
        cases r2 with
        | false =>
          go_wp2_with fail
          go_ret
          exact ⟨ret_bool (by rw [HR.out, netOk_bad hl.out (by rw [lnOk, h1.out, h2.out]; rfl)]), hbl⟩
        | true =>
          by_cases h3 : l.a = l.b
          · have h3' : (l.a == l.b) = true := bT h3
            have H3 := Lib.hid h3'
            clear h3
            go_wp2_with fail
            go_ret
            exact ⟨ret_bool (by rw [HR.out, netOk_bad hl.out (by rw [lnOk, h1.out, h2.out, H3.out]; rfl)]), hbl⟩
          · have h3' : (l.a == l.b) = false := bF h3
            have H3 := Lib.hid h3'
            clear h3
            obtain ⟨r4, h4⟩ : ∃ r, inB l.c 1 9 = r := ⟨_, rfl⟩
            replace h4 := Lib.hid h4
            go_wp2_with fail
            refine (l6In_b _ _ _ _ h4.out _).mono ?_
            rintro e w4 ⟨rfl, rfl⟩
            cases r4 with
            | false =>
              go_wp2_with fail
              go_ret
              exact ⟨ret_bool (by rw [HR.out, netOk_bad hl.out (by rw [lnOk, h1.out, h2.out, H3.out, h4.out]; rfl)]), hbl⟩
            | true =>
              go_wp2_with fail
              go_roundw
              case rel => exact ⟨k + 1, by omega, by go_num, all_take_step hl.out hall.out (by rw [lnOk, h1.out, h2.out, H3.out, h4.out]; rfl), hbl⟩
              case measure => simp [intOf]; omega
    · obtain rfl : k = m := by omega
      go_wp2_with fail
      refine (l6In_b _ _ _ true (decide_eq_true ⟨hn0, hn1⟩) _).mono ?_
      rintro e w4 ⟨rfl, rfl⟩
      go_wp2_with fail
      go_ret
      refine ⟨ret_bool ?_, hbel⟩
      have h5 := hall.out
      rw [List.take_of_length_le (by rw [← Hm.out]; exact Nat.le_refl _)] at h5
      rw [HR.out, netOk, h5, show inB n 2 6 = true from decide_eq_true ⟨hn0, hn1⟩, ← Hm.out]
      simp; omega
set_option maxRecDepth 100000 in
theorem implNet_in (n : Int) (hn0 : 2 ≤ n) (hn1 : n ≤ 6) (A : Option Addr) (c : Nat) (L : List Ln) (hL1 : L.length ≤ 1048576) (w : World) (hL : Lns w w.heap.size A L) :
    Calls Try.prog 60 #[.int .i64 n, .slice A L.length c] w fun e w' => e = .returned (.bool (netOk n L)) ∧ Below w.heap.size w w' := by
  obtain ⟨R, hR⟩ : ∃ R, R = netOk n L := ⟨_, rfl⟩
  rw [← hR]
  obtain ⟨m, hm⟩ : ∃ m, m = L.length := ⟨_, rfl⟩
  rw [← hm] at hL1 ⊢
  have HR := Lib.hid hR
  have Hm := Lib.hid hm
  clear hR hm
  by_cases hm10 : 10 < m
  · go_enter Try.func60, Try.ntmps60
    go_wp2_with fail
    refine (within_b _ _ _ true (decide_eq_true ⟨hn0, hn1⟩) _).mono ?_
    rintro e w1 ⟨rfl, rfl⟩
    go_wp2_with fail
    go_ret
    exact ⟨ret_bool (by rw [HR.out, netOk, ← Hm.out, show decide (m ≤ 10) = false from decide_eq_false (by omega), Bool.and_false]), Below.refl _ _⟩
  have hd10 : decide (10 < m) = false := decide_eq_false hm10
  have hd10' : decide (10 < (m : Int)) = false := decide_eq_false (by omega)
  go_enter Try.func60, Try.ntmps60
  go_wp2_with fail
  refine (within_b _ _ _ true (decide_eq_true ⟨hn0, hn1⟩) _).mono ?_
  rintro e w1 ⟨rfl, rfl⟩
  go_wp2_with fail
  go_loopw [17] (fun i wr => ∃ k : Nat, k ≤ m ∧ i = .int .i64 k ∧ Hid ((L.take k).all (lnOk n) = true) ∧ Below w.heap.size w wr) (fun i _ => m - (intOf i).toNat)
  case atStart => exact ⟨0, by omega, rfl, by simp [Hid], Below.refl _ _⟩
  case round =>
    obtain ⟨k, hk, rfl, hall, hbel⟩ := hrel
    by_cases hlt : k < m
    · obtain ⟨b, off, rfl, hb, hc⟩ := hL (by rw [← Hm.out]; omega)
      obtain ⟨l, hl⟩ : ∃ l, L[k]? = some l := ⟨L[k]'(by rw [← Hm.out]; exact hlt), List.getElem?_eq_getElem _⟩
      obtain ⟨c1, c2, c3⟩ := hc k l hl
      have d1 := (hbel.cell (p := ⟨b, _, none⟩) hb).trans c1
      have d2 := (hbel.cell (p := ⟨b, _, none⟩) hb).trans c2
      have d3 := (hbel.cell (p := ⟨b, _, none⟩) hb).trans c3
      replace hl := Lib.hid hl
      clear c1 c2 c3 hc
      obtain ⟨r1, h1⟩ : ∃ r, inB l.a 0 (n - 1) = r := ⟨_, rfl⟩
      replace h1 := Lib.hid h1
      go_wp2_with fail
      refine (within_b _ _ _ _ h1.out _).mono ?_
      rintro e w4 ⟨rfl, rfl⟩
      have hbl : Below w.heap.size w (wr.alloc (Obj.cells #[.int .i64 l.a, .int .i64 l.b, .int .i64 l.c] 36)) := hbel.alloc hbel.size _
      cases r1 with
      | false =>
        go_wp2_with fail
        go_ret
        exact ⟨ret_bool (by rw [HR.out, netOk_bad hl.out (by rw [lnOk, h1.out]; rfl)]), hbl⟩
      | true =>
        obtain ⟨r2, h2⟩ : ∃ r, inB l.b 0 (n - 1) = r := ⟨_, rfl⟩
        replace h2 := Lib.hid h2
        go_wp2_with fail
        refine (within_b _ _ _ _ h2.out _).mono ?_
        rintro e w4 ⟨rfl, rfl⟩
        cases r2 with
        | false =>
          go_wp2_with fail
          go_ret
          exact ⟨ret_bool (by rw [HR.out, netOk_bad hl.out (by rw [lnOk, h1.out, h2.out]; rfl)]), hbl⟩
        | true =>
          by_cases h3 : l.a = l.b
          · have h3' : (l.a == l.b) = true := bT h3
            have H3 := Lib.hid h3'
            clear h3
            go_wp2_with fail
            go_ret
            exact ⟨ret_bool (by rw [HR.out, netOk_bad hl.out (by rw [lnOk, h1.out, h2.out, H3.out]; rfl)]), hbl⟩
          · have h3' : (l.a == l.b) = false := bF h3
            have H3 := Lib.hid h3'
            clear h3
            obtain ⟨r4, h4⟩ : ∃ r, inB l.c 1 9 = r := ⟨_, rfl⟩
            replace h4 := Lib.hid h4
            go_wp2_with fail
            refine (within_b _ _ _ _ h4.out _).mono ?_
            rintro e w4 ⟨rfl, rfl⟩
            cases r4 with
            | false =>
              go_wp2_with fail
              go_ret
              exact ⟨ret_bool (by rw [HR.out, netOk_bad hl.out (by rw [lnOk, h1.out, h2.out, H3.out, h4.out]; rfl)]), hbl⟩
            | true =>
              go_wp2_with fail
              go_roundw
              case rel => exact ⟨k + 1, by omega, by go_num, all_take_step hl.out hall.out (by rw [lnOk, h1.out, h2.out, H3.out, h4.out]; rfl), hbl⟩
              case measure => simp [intOf]; omega
    · obtain rfl : k = m := by omega
      go_wp2_with fail
      go_ret
      refine ⟨ret_bool ?_, hbel⟩
      have h5 := hall.out
      rw [List.take_of_length_le (by rw [← Hm.out]; exact Nat.le_refl _)] at h5
      rw [HR.out, netOk, h5, show inB n 2 6 = true from decide_eq_true ⟨hn0, hn1⟩, ← Hm.out]
      simp; omega
theorem implNet_off (n : Int) (h : inB n 2 6 = false) (A : Option Addr) (m c : Nat) (w : World) :
    Calls Try.prog 60 #[.int .i64 n, .slice A m c] w fun e w' => e = .returned (.bool false) ∧ Below w.heap.size w w' := by
  go_enter Try.func60, Try.ntmps60
  go_wp2_with fail
  refine (within_b _ _ _ false h _).mono ?_
  rintro e w1 ⟨rfl, rfl⟩
  go_wp2_with fail
  go_ret
  exact ⟨rfl, Below.refl _ _⟩
set_option maxRecDepth 100000 in
theorem specNet_off (n : Int) (h : inB n 2 6 = false) (A : Option Addr) (c : Nat) (L : List Ln) (hL1 : L.length ≤ 1048576) (w : World) (hL : Lns w w.heap.size A L) :
    Calls Try.prog 62 #[.int .i64 n, .slice A L.length c] w fun e w' => e = .returned (.bool false) ∧ Below w.heap.size w w' := by
  obtain ⟨m, hm⟩ : ∃ m, m = L.length := ⟨_, rfl⟩
  rw [← hm] at hL1 ⊢
  have Hm := Lib.hid hm
  have Hh := Lib.hid h
  clear hm h
  go_enter Try.func62, Try.ntmps62
  go_wp2_with fail
  go_loopw [5] (fun i wr => ∃ k : Nat, k ≤ m ∧ i = .int .i64 k ∧ Below w.heap.size w wr) (fun i _ => m - (intOf i).toNat)
  case atStart => exact ⟨0, by omega, rfl, Below.refl _ _⟩
  case round =>
    obtain ⟨k, hk, rfl, hbel⟩ := hrel
    by_cases hlt : k < m
    · obtain ⟨b, off, rfl, hb, hc⟩ := hL (by rw [← Hm.out]; omega)
      obtain ⟨l, hl⟩ : ∃ l, L[k]? = some l := ⟨L[k]'(by rw [← Hm.out]; exact hlt), List.getElem?_eq_getElem _⟩
      obtain ⟨c1, c2, c3⟩ := hc k l hl
      have d1 := (hbel.cell (p := ⟨b, _, none⟩) hb).trans c1
      have d2 := (hbel.cell (p := ⟨b, _, none⟩) hb).trans c2
      have d3 := (hbel.cell (p := ⟨b, _, none⟩) hb).trans c3
      clear c1 c2 c3 hc hl
      have hbl : Below w.heap.size w (wr.alloc (Obj.cells #[.int .i64 l.a, .int .i64 l.b, .int .i64 l.c] 36)) := hbel.alloc hbel.size _
      go_wp2_with fail
      refine (l6In_b _ _ _ _ rfl _).mono ?_
      rintro e w4 ⟨rfl, rfl⟩
      generalize inB l.a 0 _ = r1
      cases r1 with
      | false =>
        go_wp2_with fail
        go_ret
        exact ⟨rfl, hbl⟩
      | true =>
        go_wp2_with fail
        refine (l6In_b _ _ _ _ rfl _).mono ?_
        rintro e w4 ⟨rfl, rfl⟩
        generalize inB l.b 0 _ = r2
        cases r2 with
        | false =>
          go_wp2_with fail
          go_ret
          exact ⟨rfl, hbl⟩
        | true =>
          by_cases h3 : l.a = l.b
          · have h3' : (l.a == l.b) = true := bT h3
            clear h3
            go_wp2_with fail
            go_ret
            exact ⟨rfl, hbl⟩
          · have h3' : (l.a == l.b) = false := bF h3
            clear h3
            go_wp2_with fail
            refine (l6In_b _ _ _ _ rfl _).mono ?_
            rintro e w4 ⟨rfl, rfl⟩
            generalize inB l.c 1 9 = r4
            cases r4 with
            | false =>
              go_wp2_with fail
              go_ret
              exact ⟨rfl, hbl⟩
            | true =>
              go_wp2_with fail
              go_roundw
              case rel => exact ⟨k + 1, by omega, by go_num, hbl⟩
              case measure => simp [intOf]; omega
    · obtain rfl : k = m := by omega
      go_wp2_with fail
      refine (l6In_b _ _ _ false Hh.out _).mono ?_
      rintro e w4 ⟨rfl, rfl⟩
      go_wp2_with fail
      go_ret
      exact ⟨rfl, hbel⟩
theorem netOk_off {n : Int} {L : List Ln} (h : inB n 2 6 = false) : netOk n L = false := by
  rw [netOk, h, Bool.and_false, Bool.false_and]
theorem specNet (n : Int) (A : Option Addr) (c : Nat) (L : List Ln) (hL1 : L.length ≤ 1048576) (w : World) (hL : Lns w w.heap.size A L) :
    Calls Try.prog 62 #[.int .i64 n, .slice A L.length c] w fun e w' => e = .returned (.bool (netOk n L)) ∧ Below w.heap.size w w' := by
  cases h : inB n 2 6 with
  | true => exact specNet_in n (inB_iff.1 h).1 (inB_iff.1 h).2 A c L hL1 w hL
  | false => rw [netOk_off h]; exact specNet_off n h A c L hL1 w hL
theorem implNet (n : Int) (A : Option Addr) (c : Nat) (L : List Ln) (hL1 : L.length ≤ 1048576) (w : World) (hL : Lns w w.heap.size A L) :
    Calls Try.prog 60 #[.int .i64 n, .slice A L.length c] w fun e w' => e = .returned (.bool (netOk n L)) ∧ Below w.heap.size w w' := by
  cases h : inB n 2 6 with
  | true => exact implNet_in n (inB_iff.1 h).1 (inB_iff.1 h).2 A c L hL1 w hL
  | false => rw [netOk_off h]; exact implNet_off n h A _ c w
end Go.Proofs.Ytkcfclkpbmeaiaa
