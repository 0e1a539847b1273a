/- The forecasts that the statements draw. -/
import Derived.Test.YtglncadfmomamaaRd
namespace Go.Proofs.Ytglncadfmomamaa
set_option linter.unusedVariables false
set_option linter.unusedSimpArgs false
open Go.RowKit
/-- A world in which the reader g may have gone on from place p to place q, and only it has turned. -/
def Went (B g p most : Nat) (w w' : World) : Prop := ∃ q, p ≤ q ∧ q ≤ p + most ∧ Rd w' B g q ∧ w.grownBy w' (some g)
def StrPost (n : Nat) (B g p most : Nat) (w : World) (e : Ending) (w' : World) : Prop := ∃ s : ByteArray, s.size ≤ n ∧ e = .returned (.string s) ∧ Went B g p most w w'
theorem Rd.lt {w : World} {B g p : Nat} (h : Rd w B g p) : g < w.heap.size := by obtain ⟨A, n, c, hr, _⟩ := h; exact hr.lt
theorem Rd.alloc {w : World} {B g p : Nat} (h : Rd w B g p) (o : Obj) : Rd (w.alloc o) B g p := h.grown (row := none) (grown_alloc (grown_refl _ _) o) (by simp) (by simp)

theorem l92Forecast_any (B g p : Nat) (most : Int) (hm0 : 0 ≤ most) (hm : most ≤ 100) (w : World) (hr : Rd w B g p) (hp : p ≤ 900000) :
    Calls Try.prog 79 #[.pointer (some ⟨g, 0, none⟩), .int .i64 most] w (StrPost 200 B g p 200 w) := by
  have HP := Lib.hid (fun p n a b w => pick_any B g p n a b w)
  have HO := Lib.hid (fun p h k ss a b c w => of_any B g p h k ss a b c w)
  go_enter Try.func79, Try.ntmps79
  go_wp2_with fail
  refine (HP.out _ _ (by omega) (by omega) _ hr (by omega)).mono ?_
  rintro e w1 ⟨v, rfl, ⟨hv0, hv1, _⟩, hr1, hg1⟩
  have hv2 := hv1 (by omega)
  clear hv1
  go_wp2_with fail
  go_loopw [5, 7] (fun s i wr => ∃ (k q : Nat) (t : ByteArray), (k : Int) ≤ v ∧ i = .int .i64 k ∧ s = .string t ∧ t.size ≤ k ∧ p + 1 ≤ q ∧ q ≤ p + 1 + k ∧ Rd wr B g q ∧ w.grownBy wr (some g)) (fun _ i _ => v.toNat - (intOf i).toNat)
  case atStart => exact ⟨0, p + 1, ⟨#[]⟩, by omega, rfl, rfl, Nat.le_refl _, by omega, by omega, hr1, hg1⟩
  case round =>
    obtain ⟨k, q, t, hk, rfl, rfl, ht, hq1, hq2, hr2, hg2⟩ := hrel
    by_cases hlt : (k : Int) < v
    · go_wp2_with fail
      refine (HO.out q _ 3 [⟨#[111]⟩, ⟨#[120]⟩, ⟨#[111]⟩] rfl (by omega) (by omega) _ (hr2.alloc _) (by omega) (Row.newS _ _ _ rfl rfl) (by have := hr2.lt; omega)).mono ?_
      rintro e w2 ⟨u, hu, rfl, hr3, hg3⟩
      have hus : u.size ≤ 1 := by
        simp only [List.mem_cons, List.not_mem_nil, or_false] at hu
        rcases hu with rfl | rfl | rfl <;> decide
      have hg4 := grown_trans (grown_alloc hg2 _) hg3
      clear hg3
      go_wp2_with fail
      go_roundw
      case rel => exact ⟨k + 1, q + 1, t ++ u, by omega, by go_num, rfl, by rw [ByteArray.size_append]; omega, by omega, by omega, hr3, hg4⟩
      case measure => simp [intOf]; omega
    · have hkv : (k : Int) = v := by omega
      have hk100 : k ≤ 100 := by omega
      go_wp2_with fail
      refine (HP.out _ _ (by omega) (by omega) _ hr2 (by omega)).mono ?_
      rintro e w2 ⟨v2, rfl, ⟨hv20, hv21, _⟩, hr3, hg3⟩
      have hg4 := grown_trans hg2 hg3
      clear hg3 hv21
      by_cases h0 : v2 = 0
      · subst h0
        go_wp2_with fail
        refine (HO.out (q + 1) _ 3 [⟨#[97]⟩, ⟨#[79]⟩, ⟨#[32]⟩] rfl (by omega) (by omega) _ (hr3.alloc _) (by omega) (Row.newS _ _ _ rfl rfl) (by have := hr3.lt; omega)).mono ?_
        rintro e w3 ⟨u, hu, rfl, hr5, hg5⟩
        have hus : u.size ≤ 1 := by
          simp only [List.mem_cons, List.not_mem_nil, or_false] at hu
          rcases hu with rfl | rfl | rfl <;> decide
        have hg6 := grown_trans (grown_alloc hg4 _) hg5
        clear hg5
        go_wp2_with fail
        go_ret
        exact ⟨t ++ u, by rw [ByteArray.size_append]; omega, rfl, q + 1 + 1, by omega, by omega, hr5, hg6⟩
      · have h0' : (v2 == 0) = false := by simpa using h0
        clear h0
        go_wp2_with fail
        go_ret
        exact ⟨t, by omega, rfl, q + 1, by omega, by omega, hr3, hg4⟩
end Go.Proofs.Ytglncadfmomamaa
