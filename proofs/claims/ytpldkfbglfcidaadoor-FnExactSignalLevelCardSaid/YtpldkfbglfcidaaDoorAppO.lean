/- Slices of numbers of the call's own: one appended to another, stores. -/
import Derived.Test.YtpldkfbglfcidaaDoorApp
import Derived.Laws.AppendOwnNone
import Derived.OwnWalk
import Derived.ArgAppend
namespace Go.Proofs.YtpldkfbglfcidaaDoor
set_option linter.unusedVariables false
set_option linter.unusedSimpArgs false
open Go.RowKit
set_option maxRecDepth 100000
theorem Own.src {w : World} {B n c : Nat} {A : Option Addr} {xs : List Int} (h : Own w B (.slice A n c) xs) : n = xs.length ∧ ((A = none ∧ n = 0 ∧ c = 0 ∧ xs = []) ∨ ∃ g, A = some ⟨g, 0, none⟩ ∧ B ≤ g ∧ g < w.heap.size ∧ (∀ j x, xs[j]? = some x → w.cell? ⟨g, j, none⟩ = some (.int .i64 x)) ∧ ∀ j, w.frozen? ⟨g, j, none⟩ = false) := by
  have hn := h.len
  refine ⟨hn, ?_⟩
  subst hn
  rcases h.spot with rfl | ⟨g, rfl, hg, hlt⟩
  · left
    have h' := h
    unfold Own at h'
    rcases h'.2 with ⟨e, h0⟩ | ⟨g, cap, cur, e, _⟩
    · injection e with _ e1 e2
      exact ⟨rfl, e1, e2, List.eq_nil_of_length_eq_zero e1⟩
    · cases e
  · right
    refine ⟨g, rfl, hg, hlt, fun j x hx => ?_, fun j => World.ownsRow.frozenAt h j⟩
    have hj : j < xs.length := (List.getElem?_eq_some_iff.1 hx).1
    rw [World.ownsRow.cellAt h j (by omega)]; exact ivs_get hx
theorem Own.put {w : World} {B g n c : Nat} {xs : List Int} (h : Own w B (.slice (some ⟨g, 0, none⟩) n c) xs) (j : Nat) (x : Int) : Own (w.setCell ⟨g, j, none⟩ (.int .i64 x)) B (.slice (some ⟨g, 0, none⟩) n c) (xs.set j x) := by
  have hn := h.len
  subst hn
  have := World.ownsRow.stored h j (.int .i64 x)
  rw [ivs_set] at this
  have h2 := this.1
  unfold Own
  rw [List.length_set]; exact h2
theorem appO (w : World) {ops : Array Oper} {rest : List Oper} {o : Oper} {a : Act} {Q : Exit → Act → World → Prop} (hgd : o.guard = none) (s y : Operand)
    (ho : o.op = .call { callee := .builtin .append, args := #[s, y], argTypes := #[33, 33] })
    (B : Nat) (v : Value) (xs : List Int) (hs : a.eval s = v) (hown : Own w B v xs) (B2 : Nat) (A : Option Addr) (m c : Nat) (ys : List Int) (hx : a.eval y = .slice A m c) (hsrc : Own w B2 (.slice A m c) ys) (h63 : xs.length + ys.length ≤ 2000000) (hbase : B ≤ w.heap.size)
    (h : ∀ A' c' w', Own w' B (.slice A' (xs ++ ys).length c') (xs ++ ys) → w.grownBy w' v.ownBlock → wpList Tryd.prog ops Q rest (a.put o.dst (.slice A' (xs ++ ys).length c')) w') : wpList Tryd.prog ops Q (o :: rest) a w := by
  obtain ⟨i0, hi, hz0, hz1, hz2⟩ := info_parts intInfo
  obtain ⟨rfl, hcase⟩ := hsrc.src
  rcases hcase with ⟨rfl, _, rfl, rfl⟩ | ⟨g, rfl, hg, hlt, hc, _⟩
  · obtain ⟨A0, c0, rfl, _⟩ := hown.form
    refine wpList_append_own_none hgd s y 33 ho B 3 i0 1 Tryd.underlying33 hi _ xs.length (ivs xs) hs hown hx ?_
    have := h A0 c0 w (by rw [List.append_nil]; exact hown) (grown_refl _ _)
    rw [List.append_nil] at this
    exact this
  · refine wpList_append_own w hgd s y 33 ho B 3 i0 (.int .i64 0) 1 8 Tryd.underlying33 hi hz0 hz1 hz2 rfl (by decide) v xs.length (ivs xs) hs hown ⟨g, 0, none⟩ ys.length c (ivs ys) hx (by rw [ivs_length, Nat.mul_one]) ?_ ?_ ?_ ?_ hbase ?_
    · intro j u hj
      rw [Addr.add_lit, Nat.zero_add]
      unfold ivs at hj
      rw [List.getElem?_map] at hj
      cases hy : ys[j]? with
      | none => rw [hy] at hj; cases hj
      | some x => rw [hy] at hj; injection hj with hj; subst hj; exact hc j x hy
    · intro u hu
      unfold ivs at hu
      rw [List.mem_map] at hu
      obtain ⟨x, _, rfl⟩ := hu
      rfl
    · unfold maxLen; omega
    · omega
    · intro v' w' h1 h2 _
      have e : ivs xs ++ ivs ys = ivs (xs ++ ys) := by simp [ivs]
      rw [e] at h1
      have h1' : Own w' B v' (xs ++ ys) := by unfold Own; rw [List.length_append]; exact h1
      obtain ⟨A', c', e, _⟩ := h1'.form
      subst e
      exact h A' c' w' h1' h2
theorem grown_wide {w w' : World} {row : Option Nat} (h : w.grownBy w' none) : w.grownBy w' row := ⟨h.os, h.tape, h.output, h.size, fun k hk _ => h.block k hk (by simp)⟩
/-- Two slices of the call's own lie apart. -/
def Sep (v u : Value) : Prop := ∀ j, v.ownBlock = some j → u.ownBlock ≠ some j
theorem Sep.symm {v u : Value} (h : Sep v u) : Sep u v := fun j hj hk => h j hk hj
theorem Own.apart {w w' : World} {B : Nat} {v u : Value} {xs : List Int} (h : Own w B u xs) (hg : w.grownBy w' v.ownBlock) (hs : Sep v u) : Own w' B u xs :=
  World.ownsRow.kept h hg (by
    cases hv : u.ownBlock with
    | none => exact .inl rfl
    | some k => exact .inr fun e => hs k e.symm hv)
/-- The append of one number: in its block, or in a new one. -/
theorem app1x (w : World) {ops : Array Oper} {rest : List Oper} {o : Oper} {a : Act} {Q : Exit → Act → World → Prop} (hgd : o.guard = none) (s y : Operand)
    (ho : o.op = .call { callee := .builtin .append, args := #[s, y], argTypes := #[33, 33] })
    (B : Nat) (A : Option Addr) (n c : Nat) (xs : List Int) (hs : a.eval s = .slice A n c) (hown : Own w B (.slice A n c) xs) (hn : xs.length = n)
    (ad : Addr) (x : Int) (hx : a.eval y = .slice (some ad) 1 1) (hc : w.cell? ad = some (.int .i64 x)) (h63 : n ≤ 2000000) (hbase : B ≤ w.heap.size)
    (h : ∀ A' c' w', Own w' B (.slice A' (n + 1) c') (xs ++ [x]) → w.grownBy w' (Value.ownBlock (.slice A n c)) → (∀ j, Value.ownBlock (.slice A' (n + 1) c') = some j → Value.ownBlock (.slice A n c) = some j ∨ w.heap.size ≤ j) → wpList Tryd.prog ops Q rest (a.put o.dst (.slice A' (n + 1) c')) w') : wpList Tryd.prog ops Q (o :: rest) a w := by
  obtain ⟨i0, hi, hz0, hz1, hz2⟩ := info_parts intInfo
  obtain ⟨_, hcase⟩ := hown.src
  have hnews : ∀ j u, [Value.int .i64 x][j]? = some u → w.cell? (ad.add j) = some u := by
    intro j u hj
    cases j with
    | zero =>
      simp at hj
      subst hj
      have e : ad.add 0 = ad := by unfold Addr.add; simp
      rw [e]; exact hc
    | succ j => simp at hj
  have hone : ∀ u ∈ [Value.int .i64 x], u.oneCell' = true := by intro u hu; simp at hu; subst hu; rfl
  have grow : c < n + 1 → (A = none → n = 0 ∧ c = 0) → (∀ b, A = some b → ∀ j u, (ivs xs)[j]? = some u → w.cell? (b.add j) = some u) → wpList Tryd.prog ops Q (o :: rest) a w := fun hlt hnone hold =>
    wpList_append_grows w hgd s y 33 ho 3 i0 (.int .i64 0) 1 8 Tryd.underlying33 hi hz0 hz1 hz2 rfl (by decide) A n c (ivs xs) hs hnone (by rw [ivs_length, hn, Nat.mul_one]) hold ad 1 1 [.int .i64 x] hx rfl hnews hone hlt (by unfold maxLen; omega) (by omega) fun v' w' h1 h2 => by
      rw [ivs_app] at h1
      have h1' : Own w' w.heap.size v' (xs ++ [x]) := by unfold Own; rw [List.length_append, hn]; exact h1
      obtain ⟨A', c', e, _⟩ := h1'.form
      rw [List.length_append, hn] at e
      subst e
      exact h A' c' w' (h1'.more hbase) (grown_wide h2) (fun j hj => .inr (h1'.block j hj).1)
  rcases hcase with ⟨rfl, rfl, rfl, rfl⟩ | ⟨g, rfl, hg, hlt, hcell, _⟩
  · exact grow (by omega) (fun _ => ⟨rfl, rfl⟩) (fun b hb => by cases hb)
  · by_cases hroom : n + 1 ≤ c
    · subst hn
      refine wpList_append_fits w hgd s y 33 ho B 3 i0 1 Tryd.underlying33 hi hz1 g xs.length c (ivs xs) hs hown ad 1 1 [.int .i64 x] hx rfl hnews hone hroom fun w' h1 h2 => ?_
      rw [ivs_app] at h1
      have h1' : Own w' B (.slice (some ⟨g, 0, none⟩) (xs.length + 1) c) (xs ++ [x]) := by unfold Own; rw [List.length_append]; exact h1
      exact h _ c w' h1' h2 (fun j hj => .inl hj)
    · refine grow (by omega) (fun hA => by cases hA) (fun b hb j u hj => ?_)
      injection hb with hb
      subst hb
      unfold ivs at hj
      rw [List.getElem?_map] at hj
      cases hy : xs[j]? with
      | none => rw [hy] at hj; cases hj
      | some z =>
        rw [hy] at hj
        injection hj with hj
        subst hj
        rw [Addr.add_lit, Nat.zero_add]
        exact hcell j z hy
theorem Sep.next {w : World} {v v' u : Value} (h : Sep v u) (hv : ∀ j, v'.ownBlock = some j → v.ownBlock = some j ∨ w.heap.size ≤ j) (hu : ∀ j, u.ownBlock = some j → j < w.heap.size) : Sep v' u := fun j hj hk => by
  rcases hv j hj with h1 | h1
  · exact h j h1 hk
  · have := hu j hk; omega
end Go.Proofs.YtpldkfbglfcidaaDoor
