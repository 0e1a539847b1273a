/- Slices of texts of the call's own. -/
import Derived.Test.YtpldkfbglfcidaaDoorSm
namespace Go.Proofs.YtpldkfbglfcidaaDoor
set_option linter.unusedVariables false
set_option linter.unusedSimpArgs false
open Go.RowKit
theorem strInfo : (Tryd.prog.info? 9).map (fun i => (i.zero, i.size, i.bytes)) = some (some (.string ByteArray.empty), 1, 16) := by kernel_rfl
def strs (l : List ByteArray) : List Value := l.map Value.string
/-- A slice of texts of the call's own that reads as l, in a block from B on. -/
def OwnT (w : World) (B g n c : Nat) (l : List ByteArray) : Prop := w.ownsRow B 9 1 (.slice (some ⟨g, 0, none⟩) n c) n (strs l) ∧ n = l.length
section
variable {w w' : World} {B g n c : Nat} {l : List ByteArray}
theorem OwnT.block (h : OwnT w B g n c l) : B ≤ g ∧ g < w.heap.size := World.ownsRow.lt h.1 g rfl
theorem OwnT.kept {row : Option Nat} (h : OwnT w B g n c l) (hg : w.grownBy w' row) (hne : some g ≠ row) : OwnT w' B g n c l :=
  ⟨World.ownsRow.kept h.1 hg (.inr (fun e => hne e)), h.2⟩
theorem OwnT.below (h : OwnT w B g n c l) (hb : Below w.heap.size w w') : OwnT w' B g n c l :=
  h.kept (row := none) ⟨hb.os, hb.tape, hb.output, hb.size, fun k hk _ => hb.block k hk⟩ (by simp)
theorem OwnT.alloc (h : OwnT w B g n c l) (o : Obj) : OwnT (w.alloc o) B g n c l := ⟨World.ownsRow.alloc h.1 o, h.2⟩
theorem OwnT.drewN (h : OwnT w B g n c l) (k : Nat) : OwnT (w.drewN k) B g n c l := h
theorem OwnT.cell (h : OwnT w B g n c l) (j : Nat) (x : ByteArray) (hj : l[j]? = some x) : w.cell? ⟨g, j, none⟩ = some (.string x) := by
  have h1 := h.1
  have e : (strs l)[j]? = some (.string x) := by simp [strs, hj]
  rcases h1.2 with ⟨e2, _⟩ | ⟨g2, cap, cur, e2, _, hr, _, _, _, htk⟩
  · cases e2
  · injection e2 with e2 _ _
    injection e2 with e2
    injection e2 with e2
    subst e2
    rw [cell_of_row w g j _ _ _ hr]
    rw [← htk] at e
    rw [List.getElem?_take] at e
    split at e
    · simpa using e
    · cases e
theorem OwnT.form (h : OwnT w B g n c l) : n ≤ c ∧ c ≤ maxLen := by
  rcases h.1.2 with ⟨e2, _⟩ | ⟨g2, cap, cur, e2, _, hr, h1, h2, _⟩
  · cases e2
  · injection e2 with _ _ e3
    subst e3
    exact ⟨h1, h2⟩
end
theorem OwnT.lit0 (w : World) (B : Nat) (hB : B ≤ w.heap.size) : OwnT (w.alloc (.cells #[] 9)) B w.heap.size 0 0 [] :=
  ⟨⟨by simp [strs], .inr ⟨w.heap.size, 0, #[], rfl, hB, heap_alloc_new w _, by simp, by unfold maxLen; omega, by simp, by simp [strs]⟩⟩, rfl⟩
/-- The append of one text: in its block, or in a new one. -/
theorem appT (w : World) {ops : Array Oper} {rest : List Oper} {o : Oper} {a : Act} {Q : Exit → Act → World → Prop} (hgd : o.guard = none) (s y : Operand)
    (ho : o.op = .call { callee := .builtin .append, args := #[s, y], argTypes := #[57, 57] })
    (B g n c : Nat) (l : List ByteArray) (hs : a.eval s = .slice (some ⟨g, 0, none⟩) n c) (hown : OwnT w B g n c l)
    (ad : Addr) (x : ByteArray) (hx : a.eval y = .slice (some ad) 1 1) (hc : w.cell? ad = some (.string x)) (h63 : n ≤ 2000000) (hbase : B ≤ w.heap.size)
    (h : ∀ g' c' w', OwnT w' B g' (n + 1) c' (l ++ [x]) → w.grownBy w' (some g) → wpList Tryd.prog ops Q rest (a.put o.dst (.slice (some ⟨g', 0, none⟩) (n + 1) c')) w') : wpList Tryd.prog ops Q (o :: rest) a w := by
  obtain ⟨i0, hi, hz0, hz1, hz2⟩ := info_parts strInfo
  refine wpList_append_own w hgd s y 57 ho B 9 i0 (.string ByteArray.empty) 1 16 Tryd.underlying57 hi hz0 hz1 hz2 rfl (by decide) _ n (strs l) hs hown.1 ad 1 1 [.string x] hx rfl ?_ ?_ ?_ ?_ hbase ?_
  · intro j u hj
    cases j with
    | zero =>
      simp at hj
      subst hj
      have e : ad.add 0 = ad := by unfold Addr.add; simp
      rw [e]; exact hc
    | succ j => simp at hj
  · intro u hu; simp at hu; subst hu; rfl
  · unfold maxLen; omega
  · omega
  · intro v' w' h1 h2 _
    have e : strs l ++ [.string x] = strs (l ++ [x]) := by simp [strs]
    rw [e] at h1
    rcases h1.2 with ⟨_, h0⟩ | ⟨g', cap, cur, e2, _⟩
    · omega
    · subst e2
      exact h g' cap w' ⟨h1, by rw [List.length_append, hown.2]; rfl⟩ h2
end Go.Proofs.YtpldkfbglfcidaaDoor
