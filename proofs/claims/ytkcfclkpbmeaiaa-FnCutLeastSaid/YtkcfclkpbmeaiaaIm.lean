/- The laws' helpers on slices of numbers: equal, marked, held. -/
import Derived.Test.YtkcfclkpbmeaiaaIv
namespace Go.Proofs.Ytkcfclkpbmeaiaa
set_option linter.unusedVariables false
set_option linter.unusedSimpArgs false
open Go.RowKit
theorem Own.cell {w : World} {B g n c : Nat} {xs : List Int} (h : Own w B (.slice (some ⟨g, 0, none⟩) n c) xs) {i : Nat} {x : Int} (hx : xs[i]? = some x) : w.cell? ⟨g, i, none⟩ = some (.int .i64 x) := by
  have hi : i < xs.length := (List.getElem?_eq_some_iff.1 hx).1
  obtain ⟨b, off, e, _, _, hc⟩ := h.iv (by omega)
  injection e with e
  injection e with e1 e2
  subst e1 e2
  have := hc i x hx
  rwa [Nat.zero_add] at this
theorem Own.some {w : World} {B n c : Nat} {A : Option Addr} {xs : List Int} (h : Own w B (.slice A n c) xs) (h0 : 0 < xs.length) : ∃ g, A = some ⟨g, 0, none⟩ ∧ B ≤ g ∧ g < w.heap.size := by
  rcases h.spot with rfl | h1
  · obtain ⟨b, off, e, _⟩ := h.iv h0
    cases e
  · exact h1
def MarkPost (K : Int) (n B : Nat) (A : Option Addr) (c : Nat) (w : World) (e : Ending) (w' : World) : Prop :=
  ∃ ys : List Int, e = .returned (.int .i64 (K + n)) ∧ ys.length = n ∧ (∀ j, j < n → ys[j]? = some (K + j)) ∧ Own w' B (.slice A n c) ys ∧ w.grownBy w' (Value.ownBlock (.slice A n c))
/-- A slice of int that came in. -/
def ArgI (w : World) (a : Option Addr) (len cap : Nat) (zs : List Int) : Prop :=
  (a = none ∧ len = 0 ∧ cap = 0 ∧ zs = []) ∨
  ∃ x, a = some x ∧ len ≤ cap ∧ cap ≤ maxLen ∧ zs.length = cap ∧ (∀ i, i < zs.length → w.cell? (x.add i) = some (.int .i64 (zs.getD i 0))) ∧ ∀ n ∈ zs, (Lit.int .i64 n).wf = true
theorem ArgI.iv {w : World} {a : Option Addr} {len cap : Nat} {zs : List Int} (h : ArgI w a len cap zs) : ∃ xs : List Int, xs.length = len ∧ len ≤ maxLen ∧ (∀ x ∈ xs, (Lit.int .i64 x).wf = true) ∧ Iv w 0 w.heap.size a xs := by
  rcases h with ⟨rfl, rfl, rfl, rfl⟩ | ⟨⟨b, off, spot⟩, rfl, hl, hm, hz, hc, hw⟩
  · exact ⟨[], rfl, by unfold maxLen; omega, (fun x hx => by cases hx), fun h0 => absurd h0 (by simp)⟩
  · refine ⟨zs.take len, by simp; omega, by omega, fun x hx => hw x (List.mem_of_mem_take hx), fun h0 => ?_⟩
    have h0' : 0 < len := by simp at h0; omega
    have hc0 := hc 0 (by omega)
    have hspot : spot = none := by simpa [Addr.add] using World.cell?_spot hc0
    subst hspot
    refine ⟨b, off, rfl, Nat.zero_le _, by simpa [Addr.add] using block_lt_of_cell hc0, fun i x hx => ?_⟩
    rw [List.getElem?_take] at hx
    by_cases hi : i < len
    · rw [if_pos hi] at hx
      have hiz : i < zs.length := (List.getElem?_eq_some_iff.1 hx).1
      have := hc i hiz
      rw [List.getD_eq_getElem?_getD, hx] at this
      have e : (⟨b, off, none⟩ : Addr).add i = ⟨b, off + i, none⟩ := by
        unfold Addr.add; split
        · rename_i h; subst h; rfl
        · rfl
      rw [e] at this; exact this
    · rw [if_neg hi] at hx; cases hx
end Go.Proofs.Ytkcfclkpbmeaiaa
