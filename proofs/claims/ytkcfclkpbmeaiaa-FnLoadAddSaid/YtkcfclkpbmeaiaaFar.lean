/- How far each station is: the program's far, walked. -/
import Derived.Test.YtkcfclkpbmeaiaaMap
import Derived.Test.YtkcfclkpbmeaiaaRep
import Derived.Deep.LoopGhost
import Derived.ArgAppend
namespace Go.Proofs.Ytkcfclkpbmeaiaa
set_option linter.unusedVariables false
set_option linter.unusedSimpArgs false
open Go.RowKit
/-- A slice of the call's own that begins anywhere in its block. -/
structure Que (w : World) (B g off cap : Nat) (xs : List Int) : Prop where
  le : B ≤ g
  row : ∃ cur : Array Value, w.heap[g]? = some (.cells cur 3 (0, 0)) ∧ off + cap ≤ cur.size ∧ ∀ i x, xs[i]? = some x → cur[off + i]? = some (.int .i64 x)
  fit : xs.length ≤ cap
  max : cap ≤ maxLen
section
variable {w w' : World} {B g off cap : Nat} {xs : List Int}
theorem Que.lt (h : Que w B g off cap xs) : g < w.heap.size := by
  obtain ⟨cur, hr, _⟩ := h.row
  rcases Nat.lt_or_ge g w.heap.size with h1 | h1
  · exact h1
  · rw [Array.getElem?_eq_none h1] at hr; cases hr
theorem Que.cell (h : Que w B g off cap xs) {i : Nat} {x : Int} (hx : xs[i]? = some x) : w.cell? ⟨g, off + i, none⟩ = some (.int .i64 x) := by
  obtain ⟨cur, hr, _, hc⟩ := h.row
  rw [cell_of_row w g _ cur 3 (0, 0) hr]; exact hc i x hx
theorem Que.kept {row : Option Nat} (h : Que w B g off cap xs) (hg : w.grownBy w' row) (hne : some g ≠ row) : Que w' B g off cap xs := by
  obtain ⟨cur, hr, h2⟩ := h.row
  exact ⟨h.le, ⟨cur, (hg.block g h.lt hne).trans hr, h2⟩, h.fit, h.max⟩
theorem Que.below (h : Que w B g off cap xs) (hb : Below w.heap.size w w') : Que w' B g off cap xs := by
  obtain ⟨cur, hr, h2⟩ := h.row
  exact ⟨h.le, ⟨cur, (hb.block g h.lt).trans hr, h2⟩, h.fit, h.max⟩
theorem Que.alloc (h : Que w B g off cap xs) (o : Obj) : Que (w.alloc o) B g off cap xs := h.kept (row := none) (grown_alloc (grown_refl _ _) o) (by simp)
theorem Que.far (h : Que w B g off cap xs) {p : Addr} (hp : g ≠ p.block) (u : Value) : Que (w.setCell p u) B g off cap xs := by
  obtain ⟨cur, hr, h2⟩ := h.row
  exact ⟨h.le, ⟨cur, (Below.heap_setCell w p u g hp).trans hr, h2⟩, h.fit, h.max⟩
theorem Que.tail (h : Que w B g off cap xs) (h0 : 0 < xs.length) : ∃ o', (if cap = 1 then some (⟨g, off, none⟩ : Addr) else some ⟨g, off + 1, none⟩) = some ⟨g, o', none⟩ ∧ Que w B g o' (cap - 1) xs.tail := by
  have hf := h.fit
  have hm := h.max
  obtain ⟨cur, hr, hs, hc⟩ := h.row
  have ht : xs.tail.length = xs.length - 1 := by simp
  by_cases e : cap = 1
  · subst e
    refine ⟨off, if_pos rfl, h.le, ⟨cur, hr, by omega, fun i x hx => ?_⟩, by omega, by omega⟩
    have : i < xs.tail.length := (List.getElem?_eq_some_iff.1 hx).1
    omega
  · refine ⟨off + 1, if_neg e, h.le, ⟨cur, hr, by omega, fun i x hx => ?_⟩, by omega, by omega⟩
    rw [List.getElem?_tail] at hx
    rw [show off + 1 + i = off + (i + 1) by omega]
    exact hc (i + 1) x hx
theorem Que.one (w : World) (B g : Nat) (hg : g = w.heap.size) (hB : B ≤ g) (x : Int) : Que (w.alloc (.cells #[.int .i64 x] 3)) B g 0 1 [x] := by
  subst hg
  exact ⟨hB, ⟨#[.int .i64 x], heap_alloc_new w _, by simp, fun i y hy => by
    cases i with
    | zero => simp at hy; subst hy; rfl
    | succ i => simp at hy⟩, by simp, by unfold maxLen; omega⟩
end
theorem appQ (w : World) {ops : Array Oper} {rest : List Oper} {o : Oper} {a : Act} {Q : Exit → Act → World → Prop} (hgd : o.guard = none) (s y : Operand)
    (ho : o.op = .call { callee := .builtin .append, args := #[s, y], argTypes := #[24, 24] })
    (B g off cap n : Nat) (xs : List Int) (hs : a.eval s = .slice (some ⟨g, off, none⟩) n cap) (hq : Que w B g off cap xs) (hn : xs.length = n)
    (ad : Addr) (x : Int) (hx : a.eval y = .slice (some ad) 1 1) (hc : w.cell? ad = some (.int .i64 x)) (h63 : n ≤ 2000000) (hbase : B ≤ w.heap.size)
    (h : ∀ g' o' c' w', Que w' B g' o' c' (xs ++ [x]) → w.grownBy w' (some g) → wpList Try.prog ops Q rest (a.put o.dst (.slice (some ⟨g', o', none⟩) (n + 1) c')) w') : wpList Try.prog ops Q (o :: rest) a w := by
  obtain ⟨i0, hi, hz0, hz1, hz2⟩ := info_parts intInfo
  subst hn
  have hq' := hq
  obtain ⟨hle, ⟨cur, hr, hsz, hcur⟩, hfit, hmax⟩ := hq'
  refine wpList_append_arg w hgd s y 24 ho 3 i0 (.int .i64 0) 1 8 Try.underlying24 hi hz0 hz1 hz2 rfl (by decide) g off xs.length cap (ivs xs) hs (by simp [ivs]) ?_ ad 1 1 [.int .i64 x] hx rfl ?_ ?_ ?_ ?_ ?_ ?_ ?_
  · intro j u hj
    cases hx' : xs[j]? with
    | none => rw [ivs, List.getElem?_map, hx'] at hj; cases hj
    | some z => rw [ivs_get hx'] at hj; injection hj with hj; rw [← hj]; exact hq.cell hx'
  · intro j u hj
    cases j with
    | zero =>
      simp at hj
      subst hj
      have e : ad.add 0 = ad := by unfold Addr.add; simp
      rw [e]; exact hc
    | succ j => simp at hj
  · intro u hu; simp at hu; subst hu; rfl
  · intro hroom j hj
    simp at hj
    subst hj
    constructor
    · rw [cell_of_row w g _ cur 3 (0, 0) hr, Array.getElem?_eq_getElem (by omega)]; rfl
    · exact frozen_of_row w g _ cur 3 hr
  · unfold maxLen; omega
  · omega
  · intro hroom
    refine h g off cap _ ⟨hle, ⟨cur.setIfInBounds (off + xs.length) (.int .i64 x), ?_, by simp; exact hsz, fun i z hz => ?_⟩, by simp; omega, hmax⟩ ?_
    · rw [Nat.mul_one]
      exact heap_setCell_same w g (off + xs.length) cur 3 (.int .i64 x) hr
    · rcases Nat.lt_or_ge i xs.length with hlt | hge
      · rw [List.getElem?_append_left hlt] at hz
        rw [Array.getElem?_setIfInBounds_ne (by omega)]
        exact hcur i z hz
      · have hil : i < (xs ++ [x]).length := (List.getElem?_eq_some_iff.1 hz).1
        simp at hil
        obtain rfl : i = xs.length := by omega
        rw [List.getElem?_append_right (Nat.le_refl _), Nat.sub_self] at hz
        simp at hz
        subst hz
        rw [Array.getElem?_setIfInBounds_self_of_lt (by omega)]
    · rw [Nat.mul_one]; exact grown_set w g _ _
  · intro hgrow v' w' h1 h2
    rw [ivs_app] at h1
    have h1' : Own w' w.heap.size v' (xs ++ [x]) := by unfold Own; rw [List.length_append]; exact h1
    have hg' : w.grownBy w' (some g) := ⟨h2.os, h2.tape, h2.output, h2.size, fun k hk _ => h2.block k hk (by simp)⟩
    unfold Own at h1'
    rcases h1'.2 with ⟨_, e0⟩ | ⟨g', cap', cur', rfl, hg1, hrow, hfit', hmax', hcs, htake⟩
    · simp at e0
    · rw [List.length_append] at hfit' htake ⊢
      refine h g' 0 cap' w' ⟨by omega, ⟨cur', hrow, by omega, fun i z hz => ?_⟩, by rw [List.length_append]; exact hfit', hmax'⟩ hg'
      have hz' := ivs_get hz
      rw [← htake, List.getElem?_take] at hz'
      split at hz'
      · rw [Nat.zero_add, ← Array.getElem?_toList]; exact hz'
      · cases hz'
end Go.Proofs.Ytkcfclkpbmeaiaa
