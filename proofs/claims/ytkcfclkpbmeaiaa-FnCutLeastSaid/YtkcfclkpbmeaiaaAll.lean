/- allWithin: slices.ContainsFunc, slices.IndexFunc and the closure, walked. -/
import Derived.Test.YtkcfclkpbmeaiaaIv
namespace Go.Proofs.Ytkcfclkpbmeaiaa
set_option linter.unusedVariables false
set_option linter.unusedSimpArgs false
open Go.RowKit
theorem notIn_any (x lo hi : Int) (r : Bool) (hr : inB x lo hi = r) (B1 B2 : Nat) (w : World) (h1 : w.cell? ⟨B1, 0, none⟩ = some (.int .i64 lo)) (h2 : w.cell? ⟨B2, 0, none⟩ = some (.int .i64 hi)) :
    Calls Try.prog 77 #[.int .i64 x, .pointer (some ⟨B1, 0, none⟩), .pointer (some ⟨B2, 0, none⟩)] w fun e w' => e = .returned (.bool (!r)) ∧ w = w' := by
  have Hr := Lib.hid hr
  clear hr
  cases r
  all_goals
    go_enter Try.func77, Try.ntmps77
    go_wp2_with fail
    refine (within_b _ _ _ _ Hr.out _).mono ?_
    rintro e w1 ⟨rfl, rfl⟩
    go_wp2_with fail
    go_ret
    exact ⟨rfl, rfl⟩
/-- The first number out of a range. -/
def IdxPost (lo hi : Int) (xs : List Int) (w : World) (e : Ending) (w' : World) : Prop := ∃ r : Int, e = .returned (.int .i64 r) ∧ -1 ≤ r ∧ (r < 0 ↔ ∀ x, x ∈ xs → lo ≤ x ∧ x ≤ hi) ∧ w = w'
set_option maxRecDepth 100000 in
theorem idxOut (A : Option Addr) (c : Nat) (xs : List Int) (hn : xs.length ≤ 1048576) (lo hi : Int) (B1 B2 l0 h0 : Nat) (w : World) (h1 : w.cell? ⟨B1, 0, none⟩ = some (.int .i64 lo)) (h2 : w.cell? ⟨B2, 0, none⟩ = some (.int .i64 hi)) (h : Iv w l0 h0 A xs) :
    Calls Try.prog 83 #[.slice A xs.length c, .func (.func 77) #[] #[.pointer (some ⟨B1, 0, none⟩), .pointer (some ⟨B2, 0, none⟩)]] w (IdxPost lo hi xs w) := by
  obtain ⟨n, hnl⟩ : ∃ n, n = xs.length := ⟨_, rfl⟩
  have Hn := Lib.hid hnl
  rw [← hnl] at hn ⊢
  clear hnl
  have HF := Lib.hid (fun x r hr => notIn_any x lo hi r hr B1 B2 w h1 h2)
  clear h1 h2
  go_enter Try.func83, Try.ntmps83
  go_wp2_with fail
  go_loop [5, 8] (fun _ i => ∃ k : Nat, k ≤ n ∧ i = .int .i64 k ∧ Hid (∀ j x, j < k → xs[j]? = some x → lo ≤ x ∧ x ≤ hi)) (fun _ i => n - (intOf i).toNat)
  case atStart => exact ⟨0, by omega, rfl, fun j x hj => by omega⟩
  case round =>
    obtain ⟨k, hk, rfl, hall⟩ := hrel
    by_cases hlt : k < n
    · obtain ⟨b, off, rfl, _, hb, hc⟩ := h (by rw [← Hn.out]; omega)
      obtain ⟨x, hx⟩ : ∃ x, xs[k]? = some x := ⟨xs[k]'(by rw [← Hn.out]; exact hlt), List.getElem?_eq_getElem _⟩
      have c1 := hc k x hx
      obtain ⟨r, hr⟩ : ∃ r, inB x lo hi = r := ⟨_, rfl⟩
      replace hr := Lib.hid hr
      replace hx := Lib.hid hx
      clear hc
      go_wp2_with fail
      refine (HF.out x r hr.out).mono ?_
      rintro e w2 ⟨rfl, rfl⟩
      cases r with
      | false =>
        go_wp2_with fail
        go_ret
        refine ⟨k, rfl, by omega, ⟨fun h => by omega, fun h => ?_⟩, rfl⟩
        have := inB_iff.2 (h x (List.mem_of_getElem? hx.out))
        rw [hr.out] at this; cases this
      | true =>
        go_wp2_with fail
        go_round
        case rel => exact ⟨k + 1, by omega, by go_num, fun j y hj hy => by
          rcases (by omega : j < k ∨ j = k) with h | rfl
          · exact hall.out j y h hy
          · have e1 := hx.out.symm.trans hy
            injection e1 with e1
            subst e1
            exact inB_iff.1 hr.out⟩
        case measure => simp [intOf]; omega
    · obtain rfl : k = n := by omega
      go_wp2_with fail
      go_ret
      refine ⟨-1, rfl, by omega, ⟨fun _ x hx => ?_, fun _ => by omega⟩, rfl⟩
      obtain ⟨j, hj, he⟩ := List.getElem_of_mem hx
      exact hall.out j x (by rw [Hn.out]; exact hj) (by rw [List.getElem?_eq_getElem hj, he])
theorem containsOut (A : Option Addr) (c : Nat) (xs : List Int) (hn : xs.length ≤ 1048576) (lo hi : Int) (B1 B2 l0 h0 : Nat) (w : World) (h1 : w.cell? ⟨B1, 0, none⟩ = some (.int .i64 lo)) (h2 : w.cell? ⟨B2, 0, none⟩ = some (.int .i64 hi)) (h : Iv w l0 h0 A xs) :
    Calls Try.prog 76 #[.slice A xs.length c, .func (.func 77) #[] #[.pointer (some ⟨B1, 0, none⟩), .pointer (some ⟨B2, 0, none⟩)]] w fun e w' => ∃ r, e = .returned (.bool r) ∧ (r = false ↔ ∀ x, x ∈ xs → lo ≤ x ∧ x ≤ hi) ∧ w = w' := by
  have HI := Lib.hid (idxOut A c xs hn lo hi B1 B2 l0 h0 w h1 h2 h)
  clear h1 h2 h
  go_enter Try.func76, Try.ntmps76
  go_wp2_with fail
  refine HI.out.mono ?_
  rintro e w1 ⟨r, rfl, hr1, hr, rfl⟩
  have Hr := Lib.hid hr
  clear hr
  by_cases h0 : r < 0
  · have h0' : decide (0 ≤ r) = false := decide_eq_false (by omega)
    go_wp2_with fail
    go_ret
    exact ⟨false, rfl, ⟨fun _ => Hr.out.1 h0, fun _ => rfl⟩, rfl⟩
  · have h0' : decide (0 ≤ r) = true := decide_eq_true (by omega)
    go_wp2_with fail
    go_ret
    exact ⟨true, rfl, ⟨(fun h => by cases h), fun h => absurd (Hr.out.2 h) (by omega)⟩, rfl⟩
def AllPost (lo hi : Int) (xs : List Int) (w : World) (e : Ending) (w' : World) : Prop := ∃ r, e = .returned (.bool r) ∧ (r = true ↔ ∀ x, x ∈ xs → lo ≤ x ∧ x ≤ hi) ∧ Below w.heap.size w w'
theorem allWithin_any (A : Option Addr) (c : Nat) (xs : List Int) (hn : xs.length ≤ 1048576) (lo hi : Int) (l0 : Nat) (w : World) (h : Iv w l0 w.heap.size A xs) :
    Calls Try.prog 66 #[.slice A xs.length c, .int .i64 lo, .int .i64 hi] w (AllPost lo hi xs w) := by
  have HC := Lib.hid (fun B1 B2 w h1 h2 hi' => containsOut A c xs hn lo hi B1 B2 l0 w.heap.size w h1 h2 hi')
  go_enter Try.func66, Try.ntmps66
  go_wp2_with fail
  refine (HC.out _ _ _ (by simp) (by simp) ((h.below ((((Below.refl _ _).alloc (Nat.le_refl _) _).alloc (by simp) _)) (Nat.le_refl _)).more (Nat.le_refl _) (by simp; omega))).mono ?_
  rintro e w1 ⟨r, rfl, hr, rfl⟩
  have Hr := Lib.hid hr
  clear hr
  cases r
  all_goals
    go_wp2_with fail
    go_ret
  · exact ⟨true, rfl, (by have := Hr.out; simpa using this), ((Below.refl _ _).alloc (Nat.le_refl _) _).alloc (by simp) _⟩
  · exact ⟨false, rfl, (by have := Hr.out; simpa using this), ((Below.refl _ _).alloc (Nat.le_refl _) _).alloc (by simp) _⟩
end Go.Proofs.Ytkcfclkpbmeaiaa
