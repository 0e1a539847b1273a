/- Slices of lines of the call's own; append of lines to them. -/
import Derived.Test.YtkcfclkpbmeaiaaLn
import Derived.Test.YtkcfclkpbmeaiaaApp
import Derived.Deep.RegionLaw
import Derived.Lib.AppendZeros
namespace Go.Proofs.Ytkcfclkpbmeaiaa
set_option linter.unusedVariables false
set_option linter.unusedSimpArgs false
open Go.RowKit
theorem lnCells_app (L M : List Ln) : lnCells (L ++ M) = lnCells L ++ lnCells M := by simp [lnCells]
theorem lnCells_take (L : List Ln) (k : Nat) : lnCells (L.take k) = (lnCells L).take (k * 3) := by
  rcases Nat.lt_or_ge L.length k with h | h
  · rw [List.take_of_length_le (Nat.le_of_lt h), List.take_of_length_le (by rw [lnCells_length]; omega)]
  · have : lnCells L = lnCells (L.take k) ++ lnCells (L.drop k) := by rw [← lnCells_app, List.take_append_drop]
    rw [this, List.take_left' (by rw [lnCells_length, List.length_take, Nat.min_eq_left h])]
theorem lnCells_drop (L : List Ln) (k : Nat) : lnCells (L.drop k) = (lnCells L).drop (k * 3) := by
  rcases Nat.lt_or_ge L.length k with h | h
  · rw [List.drop_of_length_le (Nat.le_of_lt h), List.drop_of_length_le (by rw [lnCells_length]; omega)]; rfl
  · have : lnCells L = lnCells (L.take k) ++ lnCells (L.drop k) := by rw [← lnCells_app, List.take_append_drop]
    rw [this, List.drop_left' (by rw [lnCells_length, List.length_take, Nat.min_eq_left h])]
/-- What Lns says, cell by cell. -/
theorem lns_at {w : World} {b off : Nat} {L : List Ln} (hc : ∀ i l, L[i]? = some l →
    w.cell? ⟨b, off + i * 3, none⟩ = some (.int .i64 l.a) ∧ w.cell? ⟨b, off + i * 3 + 1, none⟩ = some (.int .i64 l.b) ∧ w.cell? ⟨b, off + i * 3 + 2, none⟩ = some (.int .i64 l.c)) (j : Nat) (u : Value) (hj : (lnCells L)[j]? = some u) : w.cell? ⟨b, off + j, none⟩ = some u := by
  have hjl : j < L.length * 3 := by rw [← lnCells_length]; exact (List.getElem?_eq_some_iff.1 hj).1
  have hi : j / 3 < L.length := by omega
  obtain ⟨l, hl⟩ : ∃ l, L[j / 3]? = some l := ⟨L[j / 3], List.getElem?_eq_getElem hi⟩
  obtain ⟨g1, g2, g3⟩ := lnCells_get L _ l hl
  obtain ⟨c1, c2, c3⟩ := hc _ l hl
  rcases (by omega : j = j / 3 * 3 ∨ j = j / 3 * 3 + 1 ∨ j = j / 3 * 3 + 2) with h | h | h
  · rw [← h] at g1 c1; rw [g1] at hj; rw [c1, hj]
  · rw [show off + j / 3 * 3 + 1 = off + j by omega] at c2; rw [← h] at g2; rw [g2] at hj; rw [c2, hj]
  · rw [show off + j / 3 * 3 + 2 = off + j by omega] at c3; rw [← h] at g3; rw [g3] at hj; rw [c3, hj]
def OwnL (w : World) (B : Nat) (v : Value) (L : List Ln) : Prop := w.ownsRow B 36 3 v L.length (lnCells L)
section
variable {w w' : World} {B : Nat} {v : Value} {L : List Ln}
theorem OwnL.form (h : OwnL w B v L) : ∃ A c, v = .slice A L.length c ∧ L.length ≤ c ∧ c ≤ maxLen := by
  unfold OwnL at h
  rcases h.2 with ⟨rfl, h0⟩ | ⟨g, cap, cur, rfl, _, _, h1, h2, _⟩
  · exact ⟨none, 0, by rw [h0], by omega, by unfold maxLen; omega⟩
  · exact ⟨_, cap, rfl, h1, h2⟩
theorem OwnL.spot {A : Option Addr} {n c : Nat} (h : OwnL w B (.slice A n c) L) : A = none ∨ ∃ g, A = some ⟨g, 0, none⟩ ∧ B ≤ g ∧ g < w.heap.size := by
  unfold OwnL at h
  rcases h.2 with ⟨e, _⟩ | ⟨g, cap, cur, e, hg, hr, _⟩
  · injection e with e; exact .inl e
  · injection e with e
    refine .inr ⟨g, e, hg, ?_⟩
    rcases Nat.lt_or_ge g w.heap.size with h1 | h1
    · exact h1
    · rw [Array.getElem?_eq_none h1] at hr; cases hr
theorem OwnL.lns {A : Option Addr} {n c : Nat} (h : OwnL w B (.slice A n c) L) : Lns w w.heap.size A L := fun h0 => by
  have h' := h
  unfold OwnL at h'
  rcases h.spot with rfl | ⟨g, rfl, hg, hlt⟩
  · rcases h'.2 with ⟨_, e⟩ | ⟨g, cap, cur, e, _⟩
    · omega
    · cases e
  · have hn : n = L.length := by obtain ⟨A, c, e, _⟩ := h.form; injection e
    subst hn
    refine ⟨g, 0, rfl, hlt, fun i l hl => ?_⟩
    have hi : i < L.length := (List.getElem?_eq_some_iff.1 hl).1
    obtain ⟨g1, g2, g3⟩ := lnCells_get L i l hl
    rw [Nat.zero_add]
    exact ⟨by rw [h'.cellAt _ (by omega)]; exact g1, by rw [h'.cellAt _ (by omega)]; exact g2, by rw [h'.cellAt _ (by omega)]; exact g3⟩
theorem OwnL.kept {row : Option Nat} (h : OwnL w B v L) (hg : w.grownBy w' row) (hne : ∀ k, row = some k → k < B) : OwnL w' B v L :=
  World.ownsRow.kept h hg (by
    cases hv : v.ownBlock with
    | none => exact .inl rfl
    | some k =>
      refine .inr fun e => ?_
      have h1 := World.ownsRow.lt h k hv
      have h2 := hne k e.symm
      omega)
theorem OwnL.below (h : OwnL w B v L) (hb : Below w.heap.size w w') : OwnL w' B v L := h.kept (grownBy_of_below hb (Nat.le_refl _)) (fun _ e => by cases e)
theorem OwnL.alloc (h : OwnL w B v L) (o : Obj) : OwnL (w.alloc o) B v L := World.ownsRow.alloc h o
theorem OwnL.drew (h : OwnL w B v L) : OwnL w.drew B v L := h
theorem OwnL.drewN (h : OwnL w B v L) (n : Nat) : OwnL (w.drewN n) B v L := h
theorem OwnL.more (h : OwnL w B v L) {B' : Nat} (hB : B' ≤ B) : OwnL w B' v L := by
  unfold OwnL at h ⊢
  refine ⟨h.1, ?_⟩
  rcases h.2 with h1 | ⟨g, cap, cur, e, hg, h2⟩
  · exact .inl h1
  · exact .inr ⟨g, cap, cur, e, by omega, h2⟩
theorem OwnL.nil (w : World) (B : Nat) : OwnL w B (.slice none 0 0) [] := World.ownsRow_nil w B _ 3
theorem OwnL.lit0 (w : World) (B : Nat) (hB : B ≤ w.heap.size) : OwnL (w.alloc (.cells #[] 36)) B (.slice (some ⟨w.heap.size, 0, none⟩) 0 0) [] :=
  ⟨rfl, .inr ⟨w.heap.size, 0, #[], rfl, hB, heap_alloc_new w _, Nat.le_refl _, by unfold maxLen; omega, rfl, rfl⟩⟩
theorem OwnL.block (h : OwnL w B v L) : ∀ k, v.ownBlock = some k → B ≤ k ∧ k < w.heap.size := World.ownsRow.lt h
theorem OwnL.grownBelow {w0 : World} {C : Nat} (h : OwnL w B v L) (hg : w.grownBy w' v.ownBlock) (hb : Below C w0 w) (hC : C ≤ B) (hB : B ≤ w.heap.size) : Below C w0 w' :=
  hb.grown hg (by omega) (fun k hk => by have := h.block k hk; omega)
end
theorem one_lnCells (M : List Ln) : ∀ u ∈ lnCells M, u.oneCell' = true := by
  intro u hu
  unfold lnCells at hu
  rw [List.mem_flatMap] at hu
  obtain ⟨l, _, hl⟩ := hu
  simp at hl
  rcases hl with rfl | rfl | rfl <;> rfl
theorem appL (w : World) {ops : Array Oper} {rest : List Oper} {o : Oper} {a : Act} {Q : Exit → Act → World → Prop} (hgd : o.guard = none) (s y : Operand)
    (ho : o.op = .call { callee := .builtin .append, args := #[s, y], argTypes := #[23, 23] })
    (B : Nat) (v : Value) (L M : List Ln) (hs : a.eval s = v) (hown : OwnL w B v L) (m c : Nat) (hm : M.length = m) (h63 : L.length + M.length ≤ 2000000)
    (ad : Addr) (hx : a.eval y = .slice (some ad) m c) (hc : ∀ j u, (lnCells M)[j]? = some u → w.cell? (ad.add j) = some u) (hbase : B ≤ w.heap.size)
    (h : ∀ A' c' w', OwnL w' B (.slice A' (L ++ M).length c') (L ++ M) → w.grownBy w' v.ownBlock → wpList Try.prog ops Q rest (a.put o.dst (.slice A' (L ++ M).length c')) w') : wpList Try.prog ops Q (o :: rest) a w := by
  obtain ⟨i0, hi, hz0, hz1, hz2⟩ := info_parts lineInfo
  subst hm
  refine wpList_append_own w hgd s y 23 ho B 36 i0 _ 3 24 Try.underlying23 hi hz0 hz1 hz2 rfl (by decide) v L.length (lnCells L) hs hown ad M.length c (lnCells M) hx (lnCells_length M) hc (one_lnCells M) ?_ ?_ hbase ?_
  · unfold maxLen; omega
  · omega
  · intro v' w' h1 h2 _
    rw [← lnCells_app] at h1
    have h1' : OwnL w' B v' (L ++ M) := by unfold OwnL; rw [List.length_append]; exact h1
    obtain ⟨A', c', e, _⟩ := h1'.form
    subst e
    exact h A' c' w' h1' h2
theorem step_appL {w : World} {ops : Array Oper} {o : Oper} {a : Act} {K : Act → World → Prop} {Q : Exit → Act → World → Prop} {E : Prop} (hgd : o.guard = none) (s y : Operand)
    (ho : o.op = .call { callee := .builtin .append, args := #[s, y], argTypes := #[23, 23] })
    (B : Nat) (v : Value) (L M : List Ln) (hs : a.eval s = v) (hown : OwnL w B v L) (m c : Nat) (hm : M.length = m) (h63 : L.length + M.length ≤ 2000000)
    (ad : Addr) (hx : a.eval y = .slice (some ad) m c) (hc : ∀ j u, (lnCells M)[j]? = some u → w.cell? (ad.add j) = some u) (hbase : B ≤ w.heap.size)
    (h : ∀ A' c' w', OwnL w' B (.slice A' (L ++ M).length c') (L ++ M) → w.grownBy w' v.ownBlock → K (a.put o.dst (.slice A' (L ++ M).length c')) w') :
    if Region.wanted o (yielded ops a.tmps) = true then Oper.wp Try.prog o a w K Q else E := by
  have hw : Region.wanted o (yielded ops a.tmps) = true := by simp [Region.wanted, hgd]
  rw [if_pos hw]
  obtain ⟨i0, hi, hz0, hz1, hz2⟩ := info_parts lineInfo
  subst hm
  refine wp_append_own w s y 23 ho B 36 i0 _ 3 24 Try.underlying23 hi hz0 hz1 hz2 rfl (by decide) v L.length (lnCells L) hs hown ad M.length c (lnCells M) hx (lnCells_length M) hc (one_lnCells M) ?_ ?_ hbase ?_
  · unfold maxLen; omega
  · omega
  · intro v' w' h1 h2 _
    rw [← lnCells_app] at h1
    have h1' : OwnL w' B v' (L ++ M) := by unfold OwnL; rw [List.length_append]; exact h1
    obtain ⟨A', c', e, _⟩ := h1'.form
    subst e
    exact h A' c' w' h1' h2
end Go.Proofs.Ytkcfclkpbmeaiaa
