/- The draws of forecasts, and what a law's bytes are. -/
import Derived.Test.YtglncadfmomamaaFcD
import Derived.Test.YtglncadfmomamaaFcI
import Derived.Test.YtglncadfmomamaaFcLaw
import Derived.OpenShut
namespace Go.Proofs.Ytglncadfmomamaa
set_option linter.unusedVariables false
set_option linter.unusedSimpArgs false
open Go.RowKit Go.ChangeShapes

/-- A slice of bytes that came in: what the frame of a law says. -/
def ArgB (w : World) (a : Option Addr) (len cap : Nat) (zs : List Int) : Prop :=
  (a = none ∧ len = 0 ∧ cap = 0 ∧ zs = []) ∨
  ∃ x, a = some x ∧ len ≤ cap ∧ cap ≤ maxLen ∧ zs.length = cap ∧ (∀ i, i < zs.length → w.cell? (x.add i) = some (.int .u8 (zs.getD i 0))) ∧ ∀ n ∈ zs, (Lit.int .u8 n).wf = true
theorem cell_lt {w : World} {a : Addr} {v : Value} (h : w.cell? a = some v) : a.block < w.heap.size := by
  rcases Nat.lt_or_ge a.block w.heap.size with h1 | h1
  · exact h1
  · simp [World.cell?, Array.getElem?_eq_none h1] at h
theorem ArgB.byt {w : World} {a : Option Addr} {len cap : Nat} {zs : List Int} (h : ArgB w a len cap zs) : len ≤ cap ∧ cap ≤ maxLen ∧ Byt w w.heap.size a len := by
  rcases h with ⟨rfl, rfl, rfl, rfl⟩ | ⟨⟨b, off, spot⟩, rfl, hl, hm, hz, hc, hw⟩
  · exact ⟨Nat.le_refl _, by unfold maxLen; omega, fun h0 => absurd h0 (by omega)⟩
  · refine ⟨hl, hm, fun h0 => ?_⟩
    have hc0 := hc 0 (by omega)
    have hspot : spot = none := by simpa [Addr.add] using World.cell?_spot hc0
    subst hspot
    refine ⟨b, off, rfl, by simpa [Addr.add] using cell_lt hc0, fun j hj => ?_⟩
    have hcj := hc j (by omega)
    have hr := range_u8 hw j
    have hz' : zs.getD j 0 = zs[j]?.getD 0 := List.getD_eq_getElem?_getD
    rw [hz'] at hcj
    obtain ⟨v, hv⟩ := Int.eq_ofNat_of_zero_le hr.1
    refine ⟨v, by omega, ?_⟩
    rw [hv] at hcj
    have e : (⟨b, off, none⟩ : Addr).add j = ⟨b, off + j, none⟩ := by
      unfold Addr.add; split
      · rename_i h; subst h; rfl
      · rfl
    rw [e] at hcj; exact hcj

theorem many_odd (k m j n : Nat) (h : k + j * m = n) (ho : j % 2 = 1) : (k + m) + (j / 2) * (m + m) = n := by
  have e : j = 2 * (j / 2) + 1 := by omega
  generalize j / 2 = q at *
  subst e
  rw [← h, Nat.add_mul, Nat.mul_assoc, Nat.one_mul, Nat.mul_add]; omega
theorem many_even (k m j n : Nat) (h : k + j * m = n) (ho : j % 2 = 0) : k + (j / 2) * (m + m) = n := by
  have e : j = 2 * (j / 2) := by omega
  generalize j / 2 = q at *
  subst e
  rw [← h, Nat.mul_assoc, Nat.mul_add]; omega
theorem many_le (k m j n : Nat) (h : k + j * m = n) (h1 : 1 ≤ j) : m ≤ n := by
  have := Nat.mul_le_mul_right m h1; omega
theorem l6Many_any (c : UInt8) (n : Nat) (hn : n ≤ 100000) (w : World) :
    Calls Try.prog 81 #[.string ⟨#[c]⟩, .int .i64 n] w fun e w' => e = .returned (.string ⟨(List.replicate n c).toArray⟩) ∧ w = w' := by
  go_enter Try.func81, Try.ntmps81
  go_wp2_with fail
  go_loop [0, 1, 5] (fun s i o => ∃ k m j : Nat, s = .string ⟨(List.replicate m c).toArray⟩ ∧ i = .int .i64 j ∧ o = .string ⟨(List.replicate k c).toArray⟩ ∧ Hid (k + j * m = n) ∧ k ≤ n ∧ (1 ≤ j → m ≤ n) ∧ m ≤ 2 * n + 1 ∧ j ≤ n) (fun _ i _ => (intOf i).toNat)
  case atStart => exact ⟨0, 1, n, rfl, rfl, rfl, by simp [Hid], by omega, by omega, by omega, by omega⟩
  case round =>
    obtain ⟨k, m, j, rfl, rfl, rfl, hs, hk, hm, hm2, hj⟩ := hrel
    have happ : ∀ a b : Nat, (⟨(List.replicate a c).toArray⟩ : ByteArray) ++ ⟨(List.replicate b c).toArray⟩ = ⟨(List.replicate (a + b) c).toArray⟩ := fun a b => by
      apply ByteArray.ext; simp [ByteArray.data_append, List.replicate_append_replicate]
    replace happ := Lib.hid happ
    by_cases h0 : 0 < j
    · rcases Nat.mod_two_eq_zero_or_one j with h2 | h2
      · have h3 : ((j : Int) % 2 == 1) = false := by simp; omega
        have hnx := Lib.hid (many_even k m j n hs.out h2)
        clear h2
        have hmn := hm (by omega)
        go_wp2_with fail
        go_round
        case rel => exact ⟨k, m + m, j / 2, congrArg Value.string (happ.out m m), by go_num, rfl, hnx.out, hk, many_le _ _ _ _ hnx.out, by omega, by omega⟩
        case measure => simp [intOf]; omega
      · have h3 : ((j : Int) % 2 == 1) = true := by simp; omega
        have hnx := Lib.hid (many_odd k m j n hs.out h2)
        clear h2
        have hmn := hm (by omega)
        have hkm : k + m ≤ n := by have := hnx.out; omega
        go_wp2_with fail
        go_round
        case rel => exact ⟨k + m, m + m, j / 2, congrArg Value.string (happ.out m m), by go_num, congrArg Value.string (happ.out k m), hnx.out, hkm, many_le _ _ _ _ hnx.out, by omega, by omega⟩
        case measure => simp [intOf]; omega
    · obtain rfl : j = 0 := by omega
      go_wp2_with fail
      go_ret
      have := hs.out
      simp at this
      subst this
      exact ⟨rfl, rfl⟩

def ForecastPost (n : Nat) (lo hi : Int) (w : World) (e : Ending) (w' : World) : Prop :=
  ∃ (s : ByteArray) (d : Int), s.size ≤ n ∧ lo ≤ d ∧ d ≤ hi ∧ e = .returned (.tuple #[.string s, .int .i64 d]) ∧ Below w.heap.size w w'
theorem Went.below {B g p most : Nat} {w w1 w2 : World} (h : Below B w w1) (hB : B ≤ w1.heap.size) (hg : B ≤ g) (h2 : w1.grownBy w2 (some g)) : Below B w w2 :=
  h.grown h2 hB (fun k hk => by injection hk with hk; omega)
theorem Rd.ge {w : World} {B g p : Nat} (h : Rd w B g p) : B ≤ g := by obtain ⟨A, n, c, _, hB, _⟩ := h; exact hB
def TextPost (n : Nat) (w : World) (e : Ending) (w' : World) : Prop := ∃ s : ByteArray, s.size ≤ n ∧ e = .returned (.string s) ∧ Below w.heap.size w w'
end Go.Proofs.Ytglncadfmomamaa
