/- Slices of repairs of the call's own; append of repairs to them. -/
import Derived.Test.YtglncadfmomamaaJb
import Derived.Test.YtglncadfmomamaaApp
import Derived.Deep.RegionLaw
import Derived.Lib.AppendZeros
namespace Go.Proofs.Ytglncadfmomamaa
set_option linter.unusedVariables false
set_option linter.unusedSimpArgs false
open Go.RowKit
theorem jbCells_app (L M : List Jb) : jbCells (L ++ M) = jbCells L ++ jbCells M := by simp [jbCells]
theorem jbCells_take (L : List Jb) (k : Nat) : jbCells (L.take k) = (jbCells L).take (k * 2) := by
  rcases Nat.lt_or_ge L.length k with h | h
  · rw [List.take_of_length_le (Nat.le_of_lt h), List.take_of_length_le (by rw [jbCells_length]; omega)]
  · have : jbCells L = jbCells (L.take k) ++ jbCells (L.drop k) := by rw [← jbCells_app, List.take_append_drop]
    rw [this, List.take_left' (by rw [jbCells_length, List.length_take, Nat.min_eq_left h])]
theorem jbCells_drop (L : List Jb) (k : Nat) : jbCells (L.drop k) = (jbCells L).drop (k * 2) := by
  rcases Nat.lt_or_ge L.length k with h | h
  · rw [List.drop_of_length_le (Nat.le_of_lt h), List.drop_of_length_le (by rw [jbCells_length]; omega)]; rfl
  · have : jbCells L = jbCells (L.take k) ++ jbCells (L.drop k) := by rw [← jbCells_app, List.take_append_drop]
    rw [this, List.drop_left' (by rw [jbCells_length, List.length_take, Nat.min_eq_left h])]
/-- What Jbs says, cell by cell. -/
theorem jbs_at {w : World} {b off : Nat} {L : List Jb} (hc : ∀ i l, L[i]? = some l →
    w.cell? ⟨b, off + i * 2, none⟩ = some (.int .i64 l.d) ∧ w.cell? ⟨b, off + i * 2 + 1, none⟩ = some (.int .i64 l.w)) (j : Nat) (u : Value) (hj : (jbCells L)[j]? = some u) : w.cell? ⟨b, off + j, none⟩ = some u := by
  have hjl : j < L.length * 2 := by rw [← jbCells_length]; exact (List.getElem?_eq_some_iff.1 hj).1
  have hi : j / 2 < L.length := by omega
  obtain ⟨l, hl⟩ : ∃ l, L[j / 2]? = some l := ⟨L[j / 2], List.getElem?_eq_getElem hi⟩
  obtain ⟨g1, g2⟩ := jbCells_get L _ l hl
  obtain ⟨c1, c2⟩ := hc _ l hl
  rcases (by omega : j = j / 2 * 2 ∨ j = j / 2 * 2 + 1) with h | h
  · rw [← h] at g1 c1; rw [g1] at hj; rw [c1, hj]
  · rw [show off + j / 2 * 2 + 1 = off + j by omega] at c2; rw [← h] at g2; rw [g2] at hj; rw [c2, hj]
def OwnJ (w : World) (B : Nat) (v : Value) (L : List Jb) : Prop := w.ownsRow B 38 2 v L.length (jbCells L)
section
variable {w w' : World} {B : Nat} {v : Value} {L : List Jb}
theorem OwnJ.form (h : OwnJ w B v L) : ∃ A c, v = .slice A L.length c ∧ L.length ≤ c ∧ c ≤ maxLen := by
  unfold OwnJ at h
  rcases h.2 with ⟨rfl, h0⟩ | ⟨g, cap, cur, rfl, _, _, h1, h2, _⟩
  · exact ⟨none, 0, by rw [h0], by omega, by unfold maxLen; omega⟩
  · exact ⟨_, cap, rfl, h1, h2⟩
theorem OwnJ.spot {A : Option Addr} {n c : Nat} (h : OwnJ w B (.slice A n c) L) : A = none ∨ ∃ g, A = some ⟨g, 0, none⟩ ∧ B ≤ g ∧ g < w.heap.size := by
  unfold OwnJ at h
  rcases h.2 with ⟨e, _⟩ | ⟨g, cap, cur, e, hg, hr, _⟩
  · injection e with e; exact .inl e
  · injection e with e
    refine .inr ⟨g, e, hg, ?_⟩
    rcases Nat.lt_or_ge g w.heap.size with h1 | h1
    · exact h1
    · rw [Array.getElem?_eq_none h1] at hr; cases hr
theorem OwnJ.jbs {A : Option Addr} {n c : Nat} (h : OwnJ w B (.slice A n c) L) : Jbs w w.heap.size A L := fun h0 => by
  have h' := h
  unfold OwnJ at h'
  rcases h.spot with rfl | ⟨g, rfl, hg, hlt⟩
  · rcases h'.2 with ⟨_, e⟩ | ⟨g, cap, cur, e, _⟩
    · omega
    · cases e
  · have hn : n = L.length := by obtain ⟨A, c, e, _⟩ := h.form; injection e
    subst hn
    refine ⟨g, 0, rfl, hlt, fun i l hl => ?_⟩
    have hi : i < L.length := (List.getElem?_eq_some_iff.1 hl).1
    obtain ⟨g1, g2⟩ := jbCells_get L i l hl
    rw [Nat.zero_add]
    exact ⟨by rw [h'.cellAt _ (by omega)]; exact g1, by rw [h'.cellAt _ (by omega)]; exact g2⟩
theorem OwnJ.kept {row : Option Nat} (h : OwnJ w B v L) (hg : w.grownBy w' row) (hne : ∀ k, row = some k → k < B) : OwnJ w' B v L :=
  World.ownsRow.kept h hg (by
    cases hv : v.ownBlock with
    | none => exact .inl rfl
    | some k =>
      refine .inr fun e => ?_
      have h1 := World.ownsRow.lt h k hv
      have h2 := hne k e.symm
      omega)
theorem OwnJ.below (h : OwnJ w B v L) (hb : Below w.heap.size w w') : OwnJ w' B v L := h.kept (grownBy_of_below hb (Nat.le_refl _)) (fun _ e => by cases e)
theorem OwnJ.alloc (h : OwnJ w B v L) (o : Obj) : OwnJ (w.alloc o) B v L := World.ownsRow.alloc h o
theorem OwnJ.drew (h : OwnJ w B v L) : OwnJ w.drew B v L := h
theorem OwnJ.drewN (h : OwnJ w B v L) (n : Nat) : OwnJ (w.drewN n) B v L := h
theorem OwnJ.more (h : OwnJ w B v L) {B' : Nat} (hB : B' ≤ B) : OwnJ w B' v L := by
  unfold OwnJ at h ⊢
  refine ⟨h.1, ?_⟩
  rcases h.2 with h1 | ⟨g, cap, cur, e, hg, h2⟩
  · exact .inl h1
  · exact .inr ⟨g, cap, cur, e, by omega, h2⟩
theorem OwnJ.nil (w : World) (B : Nat) : OwnJ w B (.slice none 0 0) [] := World.ownsRow_nil w B _ 2
theorem OwnJ.lit0 (w : World) (B : Nat) (hB : B ≤ w.heap.size) : OwnJ (w.alloc (.cells #[] 38)) B (.slice (some ⟨w.heap.size, 0, none⟩) 0 0) [] :=
  ⟨rfl, .inr ⟨w.heap.size, 0, #[], rfl, hB, heap_alloc_new w _, Nat.le_refl _, by unfold maxLen; omega, rfl, rfl⟩⟩
theorem OwnJ.block (h : OwnJ w B v L) : ∀ k, v.ownBlock = some k → B ≤ k ∧ k < w.heap.size := World.ownsRow.lt h
theorem OwnJ.grownBelow {w0 : World} {C : Nat} (h : OwnJ w B v L) (hg : w.grownBy w' v.ownBlock) (hb : Below C w0 w) (hC : C ≤ B) (hB : B ≤ w.heap.size) : Below C w0 w' :=
  hb.grown hg (by omega) (fun k hk => by have := h.block k hk; omega)
end
theorem one_jbCells (M : List Jb) : ∀ u ∈ jbCells M, u.oneCell' = true := by
  intro u hu
  unfold jbCells at hu
  rw [List.mem_flatMap] at hu
  obtain ⟨l, _, hl⟩ := hu
  simp at hl
  rcases hl with rfl | rfl <;> rfl
theorem appJ (w : World) {ops : Array Oper} {rest : List Oper} {o : Oper} {a : Act} {Q : Exit → Act → World → Prop} (hgd : o.guard = none) (s y : Operand)
    (ho : o.op = .call { callee := .builtin .append, args := #[s, y], argTypes := #[25, 25] })
    (B : Nat) (v : Value) (L M : List Jb) (hs : a.eval s = v) (hown : OwnJ w B v L) (m c : Nat) (hm : M.length = m) (h63 : L.length + M.length ≤ 2000000)
    (ad : Addr) (hx : a.eval y = .slice (some ad) m c) (hc : ∀ j u, (jbCells M)[j]? = some u → w.cell? (ad.add j) = some u) (hbase : B ≤ w.heap.size)
    (h : ∀ A' c' w', OwnJ w' B (.slice A' (L ++ M).length c') (L ++ M) → w.grownBy w' v.ownBlock → wpList Try.prog ops Q rest (a.put o.dst (.slice A' (L ++ M).length c')) w') : wpList Try.prog ops Q (o :: rest) a w := by
  obtain ⟨i0, hi, hz0, hz1, hz2⟩ := info_parts jobInfo
  subst hm
  refine wpList_append_own w hgd s y 25 ho B 38 i0 _ 2 16 Try.underlying25 hi hz0 hz1 hz2 rfl (by decide) v L.length (jbCells L) hs hown ad M.length c (jbCells M) hx (jbCells_length M) hc (one_jbCells M) ?_ ?_ hbase ?_
  · unfold maxLen; omega
  · omega
  · intro v' w' h1 h2 _
    rw [← jbCells_app] at h1
    have h1' : OwnJ w' B v' (L ++ M) := by unfold OwnJ; rw [List.length_append]; exact h1
    obtain ⟨A', c', e, _⟩ := h1'.form
    subst e
    exact h A' c' w' h1' h2
theorem step_appJ {w : World} {ops : Array Oper} {o : Oper} {a : Act} {K : Act → World → Prop} {Q : Exit → Act → World → Prop} {E : Prop} (hgd : o.guard = none) (s y : Operand)
    (ho : o.op = .call { callee := .builtin .append, args := #[s, y], argTypes := #[25, 25] })
    (B : Nat) (v : Value) (L M : List Jb) (hs : a.eval s = v) (hown : OwnJ w B v L) (m c : Nat) (hm : M.length = m) (h63 : L.length + M.length ≤ 2000000)
    (ad : Addr) (hx : a.eval y = .slice (some ad) m c) (hc : ∀ j u, (jbCells M)[j]? = some u → w.cell? (ad.add j) = some u) (hbase : B ≤ w.heap.size)
    (h : ∀ A' c' w', OwnJ w' B (.slice A' (L ++ M).length c') (L ++ M) → w.grownBy w' v.ownBlock → K (a.put o.dst (.slice A' (L ++ M).length c')) w') :
    if Region.wanted o (yielded ops a.tmps) = true then Oper.wp Try.prog o a w K Q else E := by
  have hw : Region.wanted o (yielded ops a.tmps) = true := by simp [Region.wanted, hgd]
  rw [if_pos hw]
  obtain ⟨i0, hi, hz0, hz1, hz2⟩ := info_parts jobInfo
  subst hm
  refine wp_append_own w s y 25 ho B 38 i0 _ 2 16 Try.underlying25 hi hz0 hz1 hz2 rfl (by decide) v L.length (jbCells L) hs hown ad M.length c (jbCells M) hx (jbCells_length M) hc (one_jbCells M) ?_ ?_ hbase ?_
  · unfold maxLen; omega
  · omega
  · intro v' w' h1 h2 _
    rw [← jbCells_app] at h1
    have h1' : OwnJ w' B v' (L ++ M) := by unfold OwnJ; rw [List.length_append]; exact h1
    obtain ⟨A', c', e, _⟩ := h1'.form
    subst e
    exact h A' c' w' h1' h2
end Go.Proofs.Ytglncadfmomamaa
