/- Arguments that are slices of repairs, opened to cells. -/
import Derived.Test.YtglncadfmomamaaJb
import Derived.Deep.Slices
import Derived.Deep.Fields
import Derived.ChangeSame
import Derived.ProofKit
namespace Go.Proofs.Ytglncadfmomamaa
set_option linter.unusedVariables false
set_option linter.unusedSimpArgs false
open Go.RowKit Go.ChangeShapes Go.WideShapes Go.Deep
/-- A slice of repairs that came in. -/
def ArgJ (w : World) (A : Option Addr) (len cap : Nat) (L : List Jb) : Prop := L.length = len ∧ len ≤ maxLen ∧ Jbs w w.heap.size A L
theorem cell_lt {w : World} {a : Addr} {v : Value} (h : w.cell? a = some v) : a.block < w.heap.size := by
  rcases Nat.lt_or_ge a.block w.heap.size with h1 | h1
  · exact h1
  · simp [World.cell?, Array.getElem?_eq_none h1] at h
theorem add_plain (b off j : Nat) : (⟨b, off, none⟩ : Addr).add j = ⟨b, off + j, none⟩ := by
  unfold Addr.add; split
  · rename_i h; subst h; rfl
  · rfl
theorem list2 {α : Type} {l : List α} (h : l.length = 2) : ∃ a b, l = [a, b] := by
  match l, h with
  | [a, b], _ => exact ⟨a, b, rfl⟩
theorem argJ_open {H : Type} {enc : TypeId × Value → H} {w : World} {base : Nat} {spare : Nat → Bool} {held : Bool} {fuel : Nat} {cs : List Value} {x : DataW H × List MemPlace} {A : Option Addr} {len cap : Nat}
    (h : DataW.trod enc Try.prog w base spare held fuel 22 cs = some x) (hcs : cs = [.slice A len cap]) : ∃ L, ArgJ w A len cap L := by
  rcases open_slice Try.underlying22 h with ⟨h0, _⟩ | ⟨a, l, c, m, n, D, Pl, hc, hb, hl, hm, hmm, hx, hi⟩
  · rw [hcs] at h0
    simp at h0
    obtain ⟨rfl, rfl, rfl⟩ := h0
    exact ⟨[], rfl, by unfold maxLen; omega, fun h => absurd h (by simp)⟩
  · rw [hcs] at hc
    simp at hc
    obtain ⟨rfl, rfl, rfl⟩ := hc
    have hlm : len ≤ m := by rw [hmm]; split <;> omega
    have key : ∀ i : Nat, ∃ y : Jb, i < len → w.cell? (a.add (i * 2)) = some (.int .i64 y.d) ∧ w.cell? (a.add (i * 2 + 1)) = some (.int .i64 y.w) := fun i => by
      by_cases hil : i < len
      · obtain ⟨cs', hcc, ht'⟩ := hi i (by omega)
        rw [show Try.prog.cellsOf 55 = 2 by kernel_rfl] at hcc
        obtain ⟨ys, n', _, _, _, hyl, hf⟩ := DataW.trod_struct Try.underlying55 ht'
        obtain ⟨_, hcl, hat⟩ := World.cells?_some hcc
        obtain ⟨v0, v1, rfl⟩ := list2 hcl
        obtain ⟨y0, y1, rfl⟩ := list2 (hyl.trans rfl)
        have hC : Try.prog.cellsOf 3 = 1 := by kernel_rfl
        have t0 : DataW.trod enc Try.prog w base spare held n' 3 (List.take (Try.prog.cellsOf 3) (List.drop 0 [v0, v1])) = some y0 := hf 0 _ rfl
        have t1 : DataW.trod enc Try.prog w base spare held n' 3 (List.take (Try.prog.cellsOf 3) (List.drop 1 [v0, v1])) = some y1 := hf 1 _ rfl
        rw [hC] at t0 t1
        have c0 := hat 0 (by omega)
        have c1 := hat 1 (by omega)
        obtain ⟨n0, e0, _, _⟩ := DataW.trod_int Try.underlying3 t0
        obtain ⟨n1, e1, _, _⟩ := DataW.trod_int Try.underlying3 t1
        simp at e0 e1
        subst e0 e1
        rw [Go.Deep.add_add] at c0 c1
        exact ⟨⟨n0, n1⟩, fun _ => ⟨c0, c1⟩⟩
      · exact ⟨⟨0, 0⟩, fun h => absurd h hil⟩
    obtain ⟨f, hf⟩ := Classical.axiomOfChoice key
    refine ⟨(List.range len).map f, by simp, by omega, fun h0 => ?_⟩
    have hlen : 0 < len := by simpa using h0
    obtain ⟨b, off, spot⟩ := a
    have hc0 := (hf 0 hlen).1
    have hspot : spot = none := by simpa [Addr.add] using World.cell?_spot hc0
    subst hspot
    refine ⟨b, off, rfl, by simpa [Addr.add] using cell_lt hc0, fun i l hl => ?_⟩
    have hil : i < len := by have := (List.getElem?_eq_some_iff.1 hl).1; simpa using this
    rw [List.getElem?_map, List.getElem?_range hil] at hl
    simp at hl
    subst hl
    obtain ⟨a1, a2⟩ := hf i hil
    rw [add_plain] at a1 a2
    exact ⟨a1, by rw [Nat.add_assoc]; exact a2⟩
end Go.Proofs.Ytglncadfmomamaa
