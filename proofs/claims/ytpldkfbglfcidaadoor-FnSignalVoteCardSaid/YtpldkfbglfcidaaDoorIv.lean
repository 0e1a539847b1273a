/- Slices of numbers in memory; the laws' own helpers on them, walked. -/
import Derived.Test.YtpldkfbglfcidaaDoorSm
namespace Go.Proofs.YtpldkfbglfcidaaDoor
set_option linter.unusedVariables false
set_option linter.unusedSimpArgs false
open Go.RowKit
/-- A slice that reads as xs, in a block from lo on and below hi. -/
def Iv (w : World) (lo hi : Nat) (A : Option Addr) (xs : List Int) : Prop :=
  0 < xs.length → ∃ b off, A = some ⟨b, off, none⟩ ∧ lo ≤ b ∧ b < hi ∧ ∀ i x, xs[i]? = some x → w.cell? ⟨b, off + i, none⟩ = some (.int .i64 x)
section
variable {w w' : World} {lo hi B : Nat} {A : Option Addr} {xs : List Int}
theorem Iv.below (h : Iv w lo hi A xs) (hb : Below B w w') (hB : hi ≤ B) : Iv w' lo hi A xs := fun h0 => by
  obtain ⟨b, off, rfl, hl, hh, hc⟩ := h h0
  exact ⟨b, off, rfl, hl, hh, fun i x hx => (hb.cell (p := ⟨b, _, none⟩) (show b < B by omega)).trans (hc i x hx)⟩
theorem Iv.more (h : Iv w lo hi A xs) {lo' hi' : Nat} (h1 : lo' ≤ lo) (h2 : hi ≤ hi') : Iv w lo' hi' A xs := fun h0 => by
  obtain ⟨b, off, rfl, hl, hh, hc⟩ := h h0
  exact ⟨b, off, rfl, by omega, by omega, hc⟩
theorem Iv.grown {row : Option Nat} (h : Iv w lo hi A xs) (hg : w.grownBy w' row) (hr : ∀ k, row = some k → k < lo ∨ hi ≤ k) : Iv w' lo hi A xs := fun h0 => by
  obtain ⟨b, off, rfl, hl, hh, hc⟩ := h h0
  exact ⟨b, off, rfl, hl, hh, fun i x hx => hg.cell (hc i x hx) (by rintro e; have := hr _ e.symm; simp at this; omega)⟩
end
def ivs (xs : List Int) : List Value := xs.map (Value.int .i64)
theorem ivs_length (xs : List Int) : (ivs xs).length = xs.length := by simp [ivs]
theorem ivs_get {xs : List Int} {i : Nat} {x : Int} (h : xs[i]? = some x) : (ivs xs)[i]? = some (.int .i64 x) := by simp [ivs, h]
theorem ivs_set (xs : List Int) (i : Nat) (x : Int) : (ivs xs).set i (.int .i64 x) = ivs (xs.set i x) := by simp [ivs, List.map_set]
theorem ivs_app (xs : List Int) (x : Int) : ivs xs ++ [.int .i64 x] = ivs (xs ++ [x]) := by simp [ivs]
theorem ivs_zero (n : Nat) : List.replicate n (Value.int .i64 0) = ivs (List.replicate n 0) := by simp [ivs]
theorem Row.iv {w : World} {g lo hi : Nat} {t : TypeId} {xs : List Int} (h : Row w g t (ivs xs)) (hl : lo ≤ g) (hh : g < hi) : Iv w lo hi (some ⟨g, 0, none⟩) xs := fun _ =>
  ⟨g, 0, rfl, hl, hh, fun i x hx => by rw [Nat.zero_add]; exact h.cellI (ivs_get hx)⟩
/-- A slice of the call's own that reads as xs, in a block from B on. -/
def Own (w : World) (B : Nat) (v : Value) (xs : List Int) : Prop := w.ownsRow B 3 1 v xs.length (ivs xs)
section
variable {w w' : World} {B : Nat} {v : Value} {xs : List Int}
theorem Own.form (h : Own w B v xs) : ∃ A c, v = .slice A xs.length c ∧ xs.length ≤ c ∧ c ≤ maxLen := by
  unfold Own at h
  rcases h.2 with ⟨rfl, h0⟩ | ⟨g, cap, cur, rfl, _, _, h1, h2, _⟩
  · exact ⟨none, 0, by rw [h0], by omega, by unfold maxLen; omega⟩
  · exact ⟨_, cap, rfl, h1, h2⟩
theorem Own.spot {A : Option Addr} {n c : Nat} (h : Own w B (.slice A n c) xs) : A = none ∨ ∃ g, A = some ⟨g, 0, none⟩ ∧ B ≤ g ∧ g < w.heap.size := by
  unfold Own at h
  rcases h.2 with ⟨e, _⟩ | ⟨g, cap, cur, e, hg, hr, _⟩
  · injection e with e; exact .inl e
  · injection e with e
    refine .inr ⟨g, e, hg, ?_⟩
    rcases Nat.lt_or_ge g w.heap.size with h1 | h1
    · exact h1
    · rw [Array.getElem?_eq_none h1] at hr; cases hr
theorem Own.iv {A : Option Addr} {n c : Nat} (h : Own w B (.slice A n c) xs) : Iv w B w.heap.size A xs := fun h0 => by
  have h' := h
  unfold Own at h'
  rcases h.spot with rfl | ⟨g, rfl, hg, hlt⟩
  · rcases h'.2 with ⟨_, e⟩ | ⟨g, cap, cur, e, _⟩
    · omega
    · cases e
  · refine ⟨g, 0, rfl, hg, hlt, fun i x hx => ?_⟩
    have hi : i < xs.length := (List.getElem?_eq_some_iff.1 hx).1
    have hn : n = xs.length := by obtain ⟨A, c, e, _⟩ := h.form; injection e
    subst hn
    rw [Nat.zero_add, h'.cellAt i (by omega)]; exact ivs_get hx
theorem Own.kept {row : Option Nat} (h : Own w B v xs) (hg : w.grownBy w' row) (hne : ∀ k, row = some k → k < B) : Own w' B v xs :=
  World.ownsRow.kept h hg (by
    cases hv : v.ownBlock with
    | none => exact .inl rfl
    | some k =>
      refine .inr fun e => ?_
      have h1 := World.ownsRow.lt h k hv
      have h2 := hne k e.symm
      omega)
theorem grownBy_of_below {B : Nat} (hb : Below B w w') (hB : w.heap.size ≤ B) : w.grownBy w' none := ⟨hb.os, hb.tape, hb.output, hb.size, fun k hk _ => hb.block k (by omega)⟩
theorem Own.below (h : Own w B v xs) (hb : Below w.heap.size w w') : Own w' B v xs := h.kept (grownBy_of_below hb (Nat.le_refl _)) (fun _ e => by cases e)
theorem Own.alloc (h : Own w B v xs) (o : Obj) : Own (w.alloc o) B v xs := World.ownsRow.alloc h o
theorem Own.setBelow (h : Own w B v xs) {p : Addr} (hp : p.block < B) (u : Value) : Own (w.setCell p u) B v xs := ownsRow_setCell_below h hp u
theorem Own.drew (h : Own w B v xs) : Own w.drew B v xs := h
theorem Own.more (h : Own w B v xs) {B' : Nat} (hB : B' ≤ B) : Own w B' v xs := by
  unfold Own at h ⊢
  refine ⟨h.1, ?_⟩
  rcases h.2 with h1 | ⟨g, cap, cur, e, hg, h2⟩
  · exact .inl h1
  · exact .inr ⟨g, cap, cur, e, by omega, h2⟩
theorem Own.nil (w : World) (B : Nat) : Own w B (.slice none 0 0) [] := World.ownsRow_nil w B _ 1
theorem Row.own {g : Nat} (h : Row w g 3 (ivs xs)) (hB : B ≤ g) (hm : xs.length ≤ maxLen) : Own w B (.slice (some ⟨g, 0, none⟩) xs.length xs.length) xs :=
  ⟨by simp [ivs], .inr ⟨g, xs.length, ⟨ivs xs⟩, rfl, hB, h, Nat.le_refl _, hm, by simp [ivs], by rw [Nat.mul_one]; exact List.take_of_length_le (by simp [ivs])⟩⟩
theorem Own.stored {g n c : Nat} (h : Own w B (.slice (some ⟨g, 0, none⟩) n c) xs) (j : Nat) (x : Int) (hj : j < xs.length) : Own (w.setCell ⟨g, j, none⟩ (.int .i64 x)) B (.slice (some ⟨g, 0, none⟩) n c) (xs.set j x) := by
  have hn : n = xs.length := by obtain ⟨A, c, e, _⟩ := h.form; injection e
  subst hn
  have := World.ownsRow.stored h j (.int .i64 x)
  rw [ivs_set] at this
  unfold Own
  rw [List.length_set]
  exact this.1
theorem Own.frozen {g n c : Nat} (h : Own w B (.slice (some ⟨g, 0, none⟩) n c) xs) (j : Nat) : w.frozen? ⟨g, j, none⟩ = false := by
  have hn : n = xs.length := by obtain ⟨A, c, e, _⟩ := h.form; injection e
  subst hn
  exact World.ownsRow.frozenAt h j
end
/-- make([]int, 0, n), as the walk spells it. -/
theorem mk_cap (x : Int) (n : Nat) (hx : x = n) (hn : n ≤ 100000000) (w : World) :
    (Instr.makeSlice 33 (.int .i64 0) (.int .i64 x)).run Tryd.prog w = .ok (.slice (some ⟨w.heap.size, 0, none⟩) 0 n) (w.alloc (.cells (madeCells #[.int .i64 0] n) 3)) := by
  subst hx
  obtain ⟨i, hi, hz, hs, hb⟩ := info_parts intInfo
  have hr := run_make (P := Tryd.prog) w 33 3 i (.int .i64 0) Tryd.underlying33 hi hz .i64 .i64 0 n (by omega) (by omega) (by rw [hb]; omega) (by omega)
  simp only [Int.toNat_natCast, Int.toNat_zero, hs, Nat.mul_one] at hr
  exact hr
theorem Own.made0 (w : World) (B n : Nat) (hB : B ≤ w.heap.size) (hn : n ≤ 100000000) : Own (w.alloc (.cells (madeCells #[.int .i64 0] n) 3)) B (.slice (some ⟨w.heap.size, 0, none⟩) 0 n) [] :=
  ⟨by simp [ivs], .inr ⟨w.heap.size, n, madeCells #[.int .i64 0] n, rfl, hB, heap_alloc_new w _, by simp, by unfold maxLen; omega, by rw [← Array.length_toList, madeCells_toList']; simp, by simp [ivs]⟩⟩
def IntsPost (xs : List Int) (w : World) (e : Ending) (w' : World) : Prop := ∃ g, e = .returned (.slice (some ⟨g, 0, none⟩) xs.length xs.length) ∧ Row w' g 3 (ivs xs) ∧ w.heap.size ≤ g ∧ Below w.heap.size w w'
end Go.Proofs.YtpldkfbglfcidaaDoor
