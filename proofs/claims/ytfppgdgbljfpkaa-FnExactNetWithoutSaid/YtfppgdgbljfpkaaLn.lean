/- Lines in memory; the laws' own helpers on lines, walked. -/
import Derived.Test.YtfppgdgbljfpkaaIv
import Derived.Test.YtfppgdgbljfpkaaPl
namespace Go.Proofs.Ytfppgdgbljfpkaa
set_option linter.unusedVariables false
set_option linter.unusedSimpArgs false
open Go.RowKit

/-- A slice of lines that reads as L, in a block below B. -/
def Lns (w : World) (B : Nat) (A : Option Addr) (L : List Ln) : Prop :=
  0 < L.length → ∃ b off, A = some ⟨b, off, none⟩ ∧ b < B ∧ ∀ i l, L[i]? = some l →
    w.cell? ⟨b, off + i * 3, none⟩ = some (.int .i64 l.a) ∧ w.cell? ⟨b, off + i * 3 + 1, none⟩ = some (.int .i64 l.b) ∧ w.cell? ⟨b, off + i * 3 + 2, none⟩ = some (.int .i64 l.c)
theorem Lns.below {w w' : World} {B : Nat} {A : Option Addr} {L : List Ln} (h : Lns w B A L) (hb : Below B w w') : Lns w' B A L := fun h0 => by
  obtain ⟨b, off, rfl, hB, hc⟩ := h h0
  refine ⟨b, off, rfl, hB, fun i l hl => ?_⟩
  obtain ⟨h1, h2, h3⟩ := hc i l hl
  exact ⟨(hb.cell (p := ⟨b, _, none⟩) hB).trans h1, (hb.cell (p := ⟨b, _, none⟩) hB).trans h2, (hb.cell (p := ⟨b, _, none⟩) hB).trans h3⟩
theorem Lns.more {w : World} {B B' : Nat} {A : Option Addr} {L : List Ln} (h : Lns w B A L) (hB : B ≤ B') : Lns w B' A L := fun h0 => by
  obtain ⟨b, off, rfl, hb, hc⟩ := h h0
  exact ⟨b, off, rfl, by omega, hc⟩

theorem toLine_any (x y z : Int) (w : World) :
    Calls Try.prog 49 #[.agg #[.int .i64 x, .int .i64 y, .int .i64 z]] w fun e w' => e = .returned (.agg #[.int .i64 x, .int .i64 y, .int .i64 z]) ∧ Below w.heap.size w w' := by
  go_enter Try.func49, Try.ntmps49
  go_wp2_with fail
  exact ret_row rfl (w.heap.size + 1) 51 [.int .i64 x, .int .i64 y, .int .i64 z] _ rfl ((Row.newS _ _ _ (by simp) rfl).alloc _) Try.underlying51 rfl (by kernel_rfl) rfl
    ⟨rfl, (((Below.refl _ _).alloc (Nat.le_refl _) _).alloc (by simp) _).alloc (by simp; omega) _⟩

/-- The cells of lines. -/
def lnCells (L : List Ln) : List Value := L.flatMap fun l => [.int .i64 l.a, .int .i64 l.b, .int .i64 l.c]
theorem lnCells_length (L : List Ln) : (lnCells L).length = L.length * 3 := by
  induction L with
  | nil => rfl
  | cons l L ih => rw [lnCells, List.flatMap_cons, List.length_append, ← lnCells, ih, List.length_cons]; simp; omega
theorem lnCells_get (L : List Ln) (i : Nat) (l : Ln) (h : L[i]? = some l) : (lnCells L)[i * 3]? = some (.int .i64 l.a) ∧ (lnCells L)[i * 3 + 1]? = some (.int .i64 l.b) ∧ (lnCells L)[i * 3 + 2]? = some (.int .i64 l.c) := by
  induction L generalizing i with
  | nil => simp at h
  | cons x L ih =>
    rw [lnCells, List.flatMap_cons, ← lnCells]
    cases i with
    | zero => simp at h; subst h; simp
    | succ i =>
      have := ih i (by simpa using h)
      rw [show (i + 1) * 3 = i * 3 + 3 by omega]
      simpa [List.getElem?_cons_succ] using this
theorem lnCells_set (L : List Ln) (i : Nat) (l : Ln) (h : i < L.length) : (((lnCells L).set (i * 3) (.int .i64 l.a)).set (i * 3 + 1) (.int .i64 l.b)).set (i * 3 + 2) (.int .i64 l.c) = lnCells (L.set i l) := by
  induction L generalizing i with
  | nil => simp at h
  | cons x L ih =>
    cases i with
    | zero => simp [lnCells]
    | succ i =>
      have := ih i (by simpa using h)
      rw [List.set_cons_succ]
      conv => rhs; rw [lnCells, List.flatMap_cons, ← lnCells, ← this]
      rw [show (i + 1) * 3 = i * 3 + 3 by omega, lnCells, List.flatMap_cons, ← lnCells]
      simp
theorem Row.lns {w : World} {g B : Nat} {t : TypeId} {L : List Ln} (h : Row w g t (lnCells L)) (hB : g < B) : Lns w B (some ⟨g, 0, none⟩) L := fun _ =>
  ⟨g, 0, rfl, hB, fun i l hl => by
    obtain ⟨h1, h2, h3⟩ := lnCells_get L i l hl
    rw [Nat.zero_add]
    exact ⟨h.cellI h1, h.cellI h2, h.cellI h3⟩⟩
theorem lineInfo : (Try.prog.info? 51).map (fun i => (i.zero, i.size, i.bytes)) = some (some (.agg #[.int .i64 0, .int .i64 0, .int .i64 0]), 3, 24) := by kernel_rfl
theorem made3 (v : Value) (m : Nat) : (madeCells #[v, v, v] m).toList = List.replicate m v := by
  unfold madeCells
  apply List.ext_getElem (by simp)
  intro i h1 h2
  simp only [Array.toList_map, Array.toList_range, List.getElem_map, List.getElem_range, List.getElem_replicate]
  rcases (by omega : i % 3 = 0 ∨ i % 3 = 1 ∨ i % 3 = 2) with h | h | h <;> simp [h]
theorem lnCells_zero (n : Nat) : lnCells (List.replicate n ⟨0, 0, 0⟩) = List.replicate (n * 3) (.int .i64 0) := by
  induction n with
  | zero => rfl
  | succ n ih =>
    rw [List.replicate_succ, lnCells, List.flatMap_cons, ← lnCells, ih, show (n + 1) * 3 = n * 3 + 1 + 1 + 1 by omega]
    rfl
theorem made_lines (n : Nat) : (madeCells #[Value.int .i64 0, .int .i64 0, .int .i64 0] (n * 3)).toList = lnCells (List.replicate n ⟨0, 0, 0⟩) := by
  rw [made3, lnCells_zero]
def LinesPost (L : List Ln) (w : World) (e : Ending) (w' : World) : Prop := ∃ g, e = .returned (.slice (some ⟨g, 0, none⟩) L.length L.length) ∧ Row w' g 51 (lnCells L) ∧ w.heap.size ≤ g ∧ Below w.heap.size w w'
theorem szLineS_any (A : Option Addr) (n c : Nat) (hn : n ≤ maxLen) (x : Int) (hx0 : 0 ≤ x) (hx : x ≤ 1048576) (w : World) :
    Calls Try.prog 15 #[.slice A n c, .int .i64 x] w fun e w' => e = .returned (.int .i64 (if x - n < 0 then -1 else x - n)) ∧ w = w' := by
  unfold maxLen at hn
  by_cases h : x - n < 0
  · rw [if_pos h]
    go_enter Try.func15, Try.ntmps15
    go_wp2_with fail
    go_ret
    exact ⟨rfl, rfl⟩
  · rw [if_neg h]
    go_enter Try.func15, Try.ntmps15
    go_wp2_with fail
    go_ret
    exact ⟨rfl, rfl⟩
theorem toLineS_any (A : Option Addr) (c : Nat) (L : List Ln) (hn : L.length ≤ 1048576) (w : World) (hL : Lns w w.heap.size A L) :
    Calls Try.prog 17 #[.slice A L.length c] w (LinesPost L w) := by
  obtain ⟨n, hnl⟩ : ∃ n, n = L.length := ⟨_, rfl⟩
  have Hn := Lib.hid hnl
  rw [← hnl] at hn ⊢
  have hmk := fun w => mk_rows (P := Try.prog) 25 51 _ 3 24 Try.underlying25 lineInfo (n : Int) n rfl (by omega) (by omega) w
  simp only [Value.cells] at hmk
  clear hnl
  go_enter Try.func17, Try.ntmps17
  go_wp2_with fail
  go_loopw [4] (fun i wr => ∃ (k : Nat) (M : List Ln), k ≤ n ∧ i = .int .i64 k ∧ Hid (M.length = n ∧ ∀ j, j < k → M[j]? = L[j]?) ∧ Row wr w.heap.size 51 (lnCells M) ∧ Below w.heap.size w wr) (fun i _ => n - (intOf i).toNat)
  case atStart => exact ⟨0, List.replicate n ⟨0, 0, 0⟩, by omega, rfl, ⟨by simp, fun j hj => by omega⟩, Row.newS _ _ _ rfl (made_lines n), (Below.refl _ _).alloc (Nat.le_refl _) _⟩
  case round =>
    obtain ⟨k, M, hk, rfl, hM, hr, hbel⟩ := hrel
    by_cases hlt : k < n
    · obtain ⟨b, off, rfl, hb, hc⟩ := hL (by rw [← Hn.out]; omega)
      obtain ⟨l, hl⟩ : ∃ l, L[k]? = some l := ⟨L[k]'(by rw [← Hn.out]; exact hlt), List.getElem?_eq_getElem _⟩
      obtain ⟨c1, c2, c3⟩ := hc k l hl
      have d1 := (hbel.cell (p := ⟨b, _, none⟩) hb).trans c1
      have d2 := (hbel.cell (p := ⟨b, _, none⟩) hb).trans c2
      have d3 := (hbel.cell (p := ⟨b, _, none⟩) hb).trans c3
      clear c1 c2 c3 hc
      replace hl := Lib.hid hl
      go_wp2_with fail
      refine (toLine_any _ _ _ _).mono ?_
      rintro e w2 ⟨rfl, hb2⟩
      have hr2 := hr.below hb2 hr.lt
      have hbel2 := hbel.trans (hb2.mono hbel.size)
      clear hb2
      obtain ⟨m, hm⟩ : ∃ m, M[k]? = some m := ⟨M[k]'(by rw [hM.out.1]; exact hlt), List.getElem?_eq_getElem _⟩
      obtain ⟨g1, g2, g3⟩ := lnCells_get M k m hm
      have e1 := hr2.cellI g1
      have e2 := hr2.cellI g2
      have e3 := hr2.cellI g3
      have f1 := hr2.frozen (k * 3)
      have f2 := hr2.frozen (k * 3 + 1)
      have f3 := hr2.frozen (k * 3 + 2)
      clear g1 g2 g3 hm
      go_wp2_with fail
      go_roundw
      case rel => exact ⟨k + 1, M.set k l, by omega, by go_num, ⟨by rw [List.length_set]; exact hM.out.1, fun j hj => by
        rcases (by omega : j < k ∨ j = k) with h | rfl
        · rw [List.getElem?_set_ne (by omega)]; exact hM.out.2 j h
        · rw [List.getElem?_set_self (by rw [hM.out.1]; exact hlt)]; exact hl.out.symm⟩, ((((hr2.set _ _).set _ _).set _ _).eq (lnCells_set M k l (by rw [hM.out.1]; exact hlt))), ((hbel2.setCell (by simp) _).setCell (by simp) _).setCell (by simp) _⟩
      case measure => simp [intOf]; omega
    · obtain rfl : k = n := by omega
      go_wp2_with fail
      go_ret
      have hML : M = L := by
        apply List.ext_getElem?
        intro j
        rcases Nat.lt_or_ge j k with h | h
        · exact hM.out.2 j h
        · rw [List.getElem?_eq_none (by rw [hM.out.1]; exact h), List.getElem?_eq_none (by rw [← Hn.out]; exact h)]
      subst hML
      exact ⟨w.heap.size, by rw [← Hn.out]; rfl, hr, Nat.le_refl _, hbel⟩
theorem eqLine_same (l : Ln) (w : World) :
    Calls Try.prog 51 #[.agg #[.int .i64 l.a, .int .i64 l.b, .int .i64 l.c], .agg #[.int .i64 l.a, .int .i64 l.b, .int .i64 l.c]] w fun e w' => e = .returned (.bool true) ∧ Below w.heap.size w w' := by
  go_enter Try.func51, Try.ntmps51
  go_wp2_with fail
  go_ret
  exact ⟨rfl, ((Below.refl _ _).alloc (Nat.le_refl _) _).alloc (by simp) _⟩
set_option maxRecDepth 100000 in
theorem eqLineS_same (A A' : Option Addr) (c c' : Nat) (L : List Ln) (hn : L.length ≤ 1048576) (w : World) (hL : Lns w w.heap.size A L) (hL' : Lns w w.heap.size A' L) :
    Calls Try.prog 19 #[.slice A L.length c, .slice A' L.length c'] w fun e w' => e = .returned (.bool true) ∧ Below w.heap.size w w' := by
  obtain ⟨n, hnl⟩ : ∃ n, n = L.length := ⟨_, rfl⟩
  have Hn := Lib.hid hnl
  rw [← hnl] at hn ⊢
  clear hnl
  go_enter Try.func19, Try.ntmps19
  go_wp2_with fail
  go_loopw [5] (fun i wr => ∃ k : Nat, k ≤ n ∧ i = .int .i64 k ∧ Below w.heap.size w wr) (fun i _ => n - (intOf i).toNat)
  case atStart => exact ⟨0, by omega, rfl, Below.refl _ _⟩
  case round =>
    obtain ⟨k, hk, rfl, hbel⟩ := hrel
    by_cases hlt : k < n
    · obtain ⟨b, off, rfl, hb, hc⟩ := hL (by rw [← Hn.out]; omega)
      obtain ⟨b', off', rfl, hb', hc'⟩ := hL' (by rw [← Hn.out]; omega)
      obtain ⟨l, hl⟩ : ∃ l, L[k]? = some l := ⟨L[k]'(by rw [← Hn.out]; exact hlt), List.getElem?_eq_getElem _⟩
      obtain ⟨c1, c2, c3⟩ := hc k l hl
      obtain ⟨c1', c2', c3'⟩ := hc' k l hl
      have d1 := (hbel.cell (p := ⟨b, _, none⟩) hb).trans c1
      have d2 := (hbel.cell (p := ⟨b, _, none⟩) hb).trans c2
      have d3 := (hbel.cell (p := ⟨b, _, none⟩) hb).trans c3
      have d1' := (hbel.cell (p := ⟨b', _, none⟩) hb').trans c1'
      have d2' := (hbel.cell (p := ⟨b', _, none⟩) hb').trans c2'
      have d3' := (hbel.cell (p := ⟨b', _, none⟩) hb').trans c3'
      clear c1 c2 c3 hc c1' c2' c3' hc' hl
      go_wp2_with fail
      go_still_tail 8, (by kernel_rfl)
      change wpList _ _ _ _ _ wr.drew
      have hbd := hbel.drew
      generalize wr.drew = w3 at hbd ⊢
      clear d1 d2 d3 d1' d2' d3'
      go_wp2_with fail
      refine (eqLine_same l _).mono ?_
      rintro e w4 ⟨rfl, hb4⟩
      have hb5 := hbd.trans (hb4.mono hbd.size)
      clear hb4
      go_wp2_with fail
      go_roundw
      case rel => exact ⟨k + 1, by omega, by go_num, hb5⟩
      case measure => simp [intOf]; omega
    · obtain rfl : k = n := by omega
      go_wp2_with fail
      go_ret
      exact ⟨rfl, hbel⟩
end Go.Proofs.Ytfppgdgbljfpkaa
