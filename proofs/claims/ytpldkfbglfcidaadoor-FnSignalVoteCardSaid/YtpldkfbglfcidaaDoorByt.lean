/- A law's bytes, and the reader opened over them. -/
import Derived.Test.YtpldkfbglfcidaaDoorRd
import Derived.OpenShut
namespace Go.Proofs.YtpldkfbglfcidaaDoor
set_option linter.unusedVariables false
set_option linter.unusedSimpArgs false
open Go.RowKit Go.ChangeShapes

/-- A slice of bytes that came in: what the frame of a law says. -/
def ArgB (w : World) (a : Option Addr) (len cap : Nat) (zs : List Int) : Prop :=
  (a = none ∧ len = 0 ∧ cap = 0 ∧ zs = []) ∨
  ∃ x, a = some x ∧ len ≤ cap ∧ cap ≤ maxLen ∧ zs.length = cap ∧ (∀ i, i < zs.length → w.cell? (x.add i) = some (.int .u8 (zs.getD i 0))) ∧ ∀ n ∈ zs, (Lit.int .u8 n).wf = true
theorem cell_lt {w : World} {a : Addr} {v : Value} (h : w.cell? a = some v) : a.block < w.heap.size := by
  rcases Nat.lt_or_ge a.block w.heap.size with h1 | h1
  · exact h1
  · simp [World.cell?, Array.getElem?_eq_none h1] at h
theorem ArgB.byt {w : World} {a : Option Addr} {len cap : Nat} {zs : List Int} (h : ArgB w a len cap zs) : len ≤ cap ∧ cap ≤ maxLen ∧ Byt w w.heap.size a len := by
  rcases h with ⟨rfl, rfl, rfl, rfl⟩ | ⟨⟨b, off, spot⟩, rfl, hl, hm, hz, hc, hw⟩
  · exact ⟨Nat.le_refl _, by unfold maxLen; omega, fun h0 => absurd h0 (by omega)⟩
  · refine ⟨hl, hm, fun h0 => ?_⟩
    have hc0 := hc 0 (by omega)
    have hspot : spot = none := by simpa [Addr.add] using World.cell?_spot hc0
    subst hspot
    refine ⟨b, off, rfl, by simpa [Addr.add] using cell_lt hc0, fun j hj => ?_⟩
    have hcj := hc j (by omega)
    have hr := range_u8 hw j
    have hz' : zs.getD j 0 = zs[j]?.getD 0 := List.getD_eq_getElem?_getD
    rw [hz'] at hcj
    obtain ⟨v, hv⟩ := Int.eq_ofNat_of_zero_le hr.1
    refine ⟨v, by omega, ?_⟩
    rw [hv] at hcj
    have e : (⟨b, off, none⟩ : Addr).add j = ⟨b, off + j, none⟩ := by
      unfold Addr.add; split
      · rename_i h; subst h; rfl
      · rfl
    rw [e] at hcj; exact hcj
end Go.Proofs.YtpldkfbglfcidaaDoor
