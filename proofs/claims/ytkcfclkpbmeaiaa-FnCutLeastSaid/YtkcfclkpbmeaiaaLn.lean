/- Lines in memory; the laws' own helpers on lines, walked. -/
import Derived.Test.YtkcfclkpbmeaiaaIv
import Derived.Test.YtkcfclkpbmeaiaaPl
namespace Go.Proofs.Ytkcfclkpbmeaiaa
set_option linter.unusedVariables false
set_option linter.unusedSimpArgs false
open Go.RowKit

/-- A slice of lines that reads as L, in a block below B. -/
def Lns (w : World) (B : Nat) (A : Option Addr) (L : List Ln) : Prop :=
  0 < L.length → ∃ b off, A = some ⟨b, off, none⟩ ∧ b < B ∧ ∀ i l, L[i]? = some l →
    w.cell? ⟨b, off + i * 3, none⟩ = some (.int .i64 l.a) ∧ w.cell? ⟨b, off + i * 3 + 1, none⟩ = some (.int .i64 l.b) ∧ w.cell? ⟨b, off + i * 3 + 2, none⟩ = some (.int .i64 l.c)
theorem Lns.below {w w' : World} {B : Nat} {A : Option Addr} {L : List Ln} (h : Lns w B A L) (hb : Below B w w') : Lns w' B A L := fun h0 => by
  obtain ⟨b, off, rfl, hB, hc⟩ := h h0
  refine ⟨b, off, rfl, hB, fun i l hl => ?_⟩
  obtain ⟨h1, h2, h3⟩ := hc i l hl
  exact ⟨(hb.cell (p := ⟨b, _, none⟩) hB).trans h1, (hb.cell (p := ⟨b, _, none⟩) hB).trans h2, (hb.cell (p := ⟨b, _, none⟩) hB).trans h3⟩
theorem Lns.more {w : World} {B B' : Nat} {A : Option Addr} {L : List Ln} (h : Lns w B A L) (hB : B ≤ B') : Lns w B' A L := fun h0 => by
  obtain ⟨b, off, rfl, hb, hc⟩ := h h0
  exact ⟨b, off, rfl, by omega, hc⟩

/-- The cells of lines. -/
def lnCells (L : List Ln) : List Value := L.flatMap fun l => [.int .i64 l.a, .int .i64 l.b, .int .i64 l.c]
theorem lnCells_length (L : List Ln) : (lnCells L).length = L.length * 3 := by
  induction L with
  | nil => rfl
  | cons l L ih => rw [lnCells, List.flatMap_cons, List.length_append, ← lnCells, ih, List.length_cons]; simp; omega
theorem lnCells_get (L : List Ln) (i : Nat) (l : Ln) (h : L[i]? = some l) : (lnCells L)[i * 3]? = some (.int .i64 l.a) ∧ (lnCells L)[i * 3 + 1]? = some (.int .i64 l.b) ∧ (lnCells L)[i * 3 + 2]? = some (.int .i64 l.c) := by
  induction L generalizing i with
  | nil => simp at h
  | cons x L ih =>
    rw [lnCells, List.flatMap_cons, ← lnCells]
    cases i with
    | zero => simp at h; subst h; simp
    | succ i =>
      have := ih i (by simpa using h)
      rw [show (i + 1) * 3 = i * 3 + 3 by omega]
      simpa [List.getElem?_cons_succ] using this
theorem lnCells_set (L : List Ln) (i : Nat) (l : Ln) (h : i < L.length) : (((lnCells L).set (i * 3) (.int .i64 l.a)).set (i * 3 + 1) (.int .i64 l.b)).set (i * 3 + 2) (.int .i64 l.c) = lnCells (L.set i l) := by
  induction L generalizing i with
  | nil => simp at h
  | cons x L ih =>
    cases i with
    | zero => simp [lnCells]
    | succ i =>
      have := ih i (by simpa using h)
      rw [List.set_cons_succ]
      conv => rhs; rw [lnCells, List.flatMap_cons, ← lnCells, ← this]
      rw [show (i + 1) * 3 = i * 3 + 3 by omega, lnCells, List.flatMap_cons, ← lnCells]
      simp
theorem Row.lns {w : World} {g B : Nat} {t : TypeId} {L : List Ln} (h : Row w g t (lnCells L)) (hB : g < B) : Lns w B (some ⟨g, 0, none⟩) L := fun _ =>
  ⟨g, 0, rfl, hB, fun i l hl => by
    obtain ⟨h1, h2, h3⟩ := lnCells_get L i l hl
    rw [Nat.zero_add]
    exact ⟨h.cellI h1, h.cellI h2, h.cellI h3⟩⟩
theorem lineInfo : (Try.prog.info? 36).map (fun i => (i.zero, i.size, i.bytes)) = some (some (.agg #[.int .i64 0, .int .i64 0, .int .i64 0]), 3, 24) := by kernel_rfl
theorem made3 (v : Value) (m : Nat) : (madeCells #[v, v, v] m).toList = List.replicate m v := by
  unfold madeCells
  apply List.ext_getElem (by simp)
  intro i h1 h2
  simp only [Array.toList_map, Array.toList_range, List.getElem_map, List.getElem_range, List.getElem_replicate]
  rcases (by omega : i % 3 = 0 ∨ i % 3 = 1 ∨ i % 3 = 2) with h | h | h <;> simp [h]
theorem lnCells_zero (n : Nat) : lnCells (List.replicate n ⟨0, 0, 0⟩) = List.replicate (n * 3) (.int .i64 0) := by
  induction n with
  | zero => rfl
  | succ n ih =>
    rw [List.replicate_succ, lnCells, List.flatMap_cons, ← lnCells, ih, show (n + 1) * 3 = n * 3 + 1 + 1 + 1 by omega]
    rfl
theorem made_lines (n : Nat) : (madeCells #[Value.int .i64 0, .int .i64 0, .int .i64 0] (n * 3)).toList = lnCells (List.replicate n ⟨0, 0, 0⟩) := by
  rw [made3, lnCells_zero]
def LinesPost (L : List Ln) (w : World) (e : Ending) (w' : World) : Prop := ∃ g, e = .returned (.slice (some ⟨g, 0, none⟩) L.length L.length) ∧ Row w' g 36 (lnCells L) ∧ w.heap.size ≤ g ∧ Below w.heap.size w w'
end Go.Proofs.Ytkcfclkpbmeaiaa
