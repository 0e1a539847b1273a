/- append of one number to a slice of the call's own. -/
import Derived.Test.YtpldkfbglfcidaaDoorIv
import Derived.Deep.RegionLaw
namespace Go.Proofs.YtpldkfbglfcidaaDoor
set_option linter.unusedVariables false
set_option linter.unusedSimpArgs false
open Go.RowKit
theorem Own.len {w : World} {B n c : Nat} {A : Option Addr} {xs : List Int} (h : Own w B (.slice A n c) xs) : n = xs.length := by
  obtain ⟨A', c', e, _⟩ := h.form; injection e
theorem app1 (w : World) {ops : Array Oper} {rest : List Oper} {o : Oper} {a : Act} {Q : Exit → Act → World → Prop} (hgd : o.guard = none) (s y : Operand)
    (ho : o.op = .call { callee := .builtin .append, args := #[s, y], argTypes := #[33, 33] })
    (B : Nat) (v : Value) (xs : List Int) (hs : a.eval s = v) (hown : Own w B v xs) (n : Nat) (hn : xs.length = n)
    (ad : Addr) (x : Int) (hx : a.eval y = .slice (some ad) 1 1) (hc : w.cell? ad = some (.int .i64 x)) (h63 : n ≤ 2000000) (hbase : B ≤ w.heap.size)
    (h : ∀ A' c' w', Own w' B (.slice A' (n + 1) c') (xs ++ [x]) → w.grownBy w' v.ownBlock → wpList Tryd.prog ops Q rest (a.put o.dst (.slice A' (n + 1) c')) w') : wpList Tryd.prog ops Q (o :: rest) a w := by
  obtain ⟨i0, hi, hz0, hz1, hz2⟩ := info_parts intInfo
  subst hn
  refine wpList_append_own w hgd s y 33 ho B 3 i0 (.int .i64 0) 1 8 Tryd.underlying33 hi hz0 hz1 hz2 rfl (by decide) v xs.length (ivs xs) hs hown ad 1 1 [.int .i64 x] hx rfl ?_ ?_ ?_ ?_ hbase ?_
  · intro j u hj
    cases j with
    | zero =>
      simp at hj
      subst hj
      have e : ad.add 0 = ad := by unfold Addr.add; simp
      rw [e]; exact hc
    | succ j => simp at hj
  · intro u hu; simp at hu; subst hu; rfl
  · unfold maxLen; omega
  · omega
  · intro v' w' h1 h2 _
    rw [ivs_app] at h1
    have h1' : Own w' B v' (xs ++ [x]) := by unfold Own; rw [List.length_append]; exact h1
    obtain ⟨A', c', e, _⟩ := h1'.form
    rw [List.length_append] at e
    subst e
    exact h A' c' w' h1' h2
/-- .. as a step of a region that draws its order. -/
theorem step_app1 {w : World} {ops : Array Oper} {o : Oper} {a : Act} {K : Act → World → Prop} {Q : Exit → Act → World → Prop} {E : Prop} (hgd : o.guard = none) (s y : Operand)
    (ho : o.op = .call { callee := .builtin .append, args := #[s, y], argTypes := #[33, 33] })
    (B : Nat) (v : Value) (xs : List Int) (hs : a.eval s = v) (hown : Own w B v xs) (n : Nat) (hn : xs.length = n)
    (ad : Addr) (x : Int) (hx : a.eval y = .slice (some ad) 1 1) (hc : w.cell? ad = some (.int .i64 x)) (h63 : n ≤ 2000000) (hbase : B ≤ w.heap.size)
    (h : ∀ A' c' w', Own w' B (.slice A' (n + 1) c') (xs ++ [x]) → w.grownBy w' v.ownBlock → K (a.put o.dst (.slice A' (n + 1) c')) w') :
    if Region.wanted o (yielded ops a.tmps) = true then Oper.wp Tryd.prog o a w K Q else E := by
  have hw : Region.wanted o (yielded ops a.tmps) = true := by simp [Region.wanted, hgd]
  rw [if_pos hw]
  obtain ⟨i0, hi, hz0, hz1, hz2⟩ := info_parts intInfo
  subst hn
  refine wp_append_own w s y 33 ho B 3 i0 (.int .i64 0) 1 8 Tryd.underlying33 hi hz0 hz1 hz2 rfl (by decide) v xs.length (ivs xs) hs hown ad 1 1 [.int .i64 x] hx rfl ?_ ?_ ?_ ?_ hbase ?_
  · intro j u hj
    cases j with
    | zero =>
      simp at hj
      subst hj
      have e : ad.add 0 = ad := by unfold Addr.add; simp
      rw [e]; exact hc
    | succ j => simp at hj
  · intro u hu; simp at hu; subst hu; rfl
  · unfold maxLen; omega
  · omega
  · intro v' w' h1 h2 _
    rw [ivs_app] at h1
    have h1' : Own w' B v' (xs ++ [x]) := by unfold Own; rw [List.length_append]; exact h1
    obtain ⟨A', c', e, _⟩ := h1'.form
    rw [List.length_append] at e
    subst e
    exact h A' c' w' h1' h2
theorem alloc1_cell {w : World} {g : Nat} {x : Value} {t : TypeId} (h : g = w.heap.size) : (w.alloc (Obj.cells #[x] t)).cell? ⟨g, 0, none⟩ = some x := by
  subst h; exact (Row.new w t [x]).cellI rfl
theorem size_set_alloc (w : World) (p : Addr) (u : Value) (o : Obj) : ((w.setCell p u).alloc o).heap.size = w.heap.size + 1 := by simp
theorem size_set (w : World) (p : Addr) (u : Value) : (w.setCell p u).heap.size = w.heap.size := by simp
theorem Own.lit0 (w : World) (B : Nat) (hB : B ≤ w.heap.size) : Own (w.alloc (.cells #[] 3)) B (.slice (some ⟨w.heap.size, 0, none⟩) 0 0) [] :=
  Row.own (xs := []) (Row.newS w 3 #[] rfl rfl) hB (by unfold maxLen; simp)
/-- The blocks of a slice of the call's own. -/
theorem Own.block {w : World} {B : Nat} {v : Value} {xs : List Int} (h : Own w B v xs) : ∀ k, v.ownBlock = some k → B ≤ k ∧ k < w.heap.size := World.ownsRow.lt h
theorem Own.grownBelow {w w' w0 : World} {B C : Nat} {v : Value} {xs : List Int} (h : Own w B v xs) (hg : w.grownBy w' v.ownBlock) (hb : Below C w0 w) (hC : C ≤ B) (hB : B ≤ w.heap.size) : Below C w0 w' :=
  hb.grown hg (by omega) (fun k hk => by have := h.block k hk; omega)
theorem Iv.own {w w' : World} {lo hi B : Nat} {A : Option Addr} {v : Value} {xs ys : List Int} (h : Iv w lo hi A ys) (ho : Own w B v xs) (hg : w.grownBy w' v.ownBlock) (hB : hi ≤ B) : Iv w' lo hi A ys :=
  h.grown hg (fun k hk => by have := ho.block k hk; omega)
end Go.Proofs.YtpldkfbglfcidaaDoor
