/- Repairs in memory; the laws' own helpers on repairs, walked. -/
import Derived.Test.YtglncadfmomamaaIv
namespace Go.Proofs.Ytglncadfmomamaa
set_option linter.unusedVariables false
set_option linter.unusedSimpArgs false
open Go.RowKit
structure Jb where
  d : Int
  w : Int

/-- A slice of repairs that reads as L, in a block below B. -/
def Jbs (w : World) (B : Nat) (A : Option Addr) (L : List Jb) : Prop :=
  0 < L.length → ∃ b off, A = some ⟨b, off, none⟩ ∧ b < B ∧ ∀ i l, L[i]? = some l →
    w.cell? ⟨b, off + i * 2, none⟩ = some (.int .i64 l.d) ∧ w.cell? ⟨b, off + i * 2 + 1, none⟩ = some (.int .i64 l.w)
theorem Jbs.below {w w' : World} {B : Nat} {A : Option Addr} {L : List Jb} (h : Jbs w B A L) (hb : Below B w w') : Jbs w' B A L := fun h0 => by
  obtain ⟨b, off, rfl, hB, hc⟩ := h h0
  refine ⟨b, off, rfl, hB, fun i l hl => ?_⟩
  obtain ⟨h1, h2⟩ := hc i l hl
  exact ⟨(hb.cell (p := ⟨b, _, none⟩) hB).trans h1, (hb.cell (p := ⟨b, _, none⟩) hB).trans h2⟩
theorem Jbs.more {w : World} {B B' : Nat} {A : Option Addr} {L : List Jb} (h : Jbs w B A L) (hB : B ≤ B') : Jbs w B' A L := fun h0 => by
  obtain ⟨b, off, rfl, hb, hc⟩ := h h0
  exact ⟨b, off, rfl, by omega, hc⟩

theorem toJob_any (x y : Int) (w : World) :
    Calls Try.prog 49 #[.agg #[.int .i64 x, .int .i64 y]] w fun e w' => e = .returned (.agg #[.int .i64 x, .int .i64 y]) ∧ Below w.heap.size w w' := by
  go_enter Try.func49, Try.ntmps49
  go_wp2_with fail
  exact ret_row rfl (w.heap.size + 1) 38 [.int .i64 x, .int .i64 y] _ rfl ((Row.newS _ _ _ (by simp) rfl).alloc _) Try.underlying38 rfl (by kernel_rfl) rfl
    ⟨rfl, (((Below.refl _ _).alloc (Nat.le_refl _) _).alloc (by simp) _).alloc (by simp; omega) _⟩

/-- The cells of repairs. -/
def jbCells (L : List Jb) : List Value := L.flatMap fun l => [.int .i64 l.d, .int .i64 l.w]
theorem jbCells_length (L : List Jb) : (jbCells L).length = L.length * 2 := by
  induction L with
  | nil => rfl
  | cons l L ih => rw [jbCells, List.flatMap_cons, List.length_append, ← jbCells, ih, List.length_cons]; simp; omega
theorem jbCells_get (L : List Jb) (i : Nat) (l : Jb) (h : L[i]? = some l) : (jbCells L)[i * 2]? = some (.int .i64 l.d) ∧ (jbCells L)[i * 2 + 1]? = some (.int .i64 l.w) := by
  induction L generalizing i with
  | nil => simp at h
  | cons x L ih =>
    rw [jbCells, List.flatMap_cons, ← jbCells]
    cases i with
    | zero => simp at h; subst h; simp
    | succ i =>
      have := ih i (by simpa using h)
      rw [show (i + 1) * 2 = i * 2 + 2 by omega]
      simpa [List.getElem?_cons_succ] using this
theorem jbCells_set (L : List Jb) (i : Nat) (l : Jb) (h : i < L.length) : ((jbCells L).set (i * 2) (.int .i64 l.d)).set (i * 2 + 1) (.int .i64 l.w) = jbCells (L.set i l) := by
  induction L generalizing i with
  | nil => simp at h
  | cons x L ih =>
    cases i with
    | zero => simp [jbCells]
    | succ i =>
      have := ih i (by simpa using h)
      rw [List.set_cons_succ]
      conv => rhs; rw [jbCells, List.flatMap_cons, ← jbCells, ← this]
      rw [show (i + 1) * 2 = i * 2 + 2 by omega, jbCells, List.flatMap_cons, ← jbCells]
      simp
theorem Row.jbs {w : World} {g B : Nat} {t : TypeId} {L : List Jb} (h : Row w g t (jbCells L)) (hB : g < B) : Jbs w B (some ⟨g, 0, none⟩) L := fun _ =>
  ⟨g, 0, rfl, hB, fun i l hl => by
    obtain ⟨h1, h2⟩ := jbCells_get L i l hl
    rw [Nat.zero_add]
    exact ⟨h.cellI h1, h.cellI h2⟩⟩
theorem jobInfo : (Try.prog.info? 38).map (fun i => (i.zero, i.size, i.bytes)) = some (some (.agg #[.int .i64 0, .int .i64 0]), 2, 16) := by kernel_rfl
theorem made2 (v : Value) (m : Nat) : (madeCells #[v, v] m).toList = List.replicate m v := by
  unfold madeCells
  apply List.ext_getElem (by simp)
  intro i h1 h2
  simp only [Array.toList_map, Array.toList_range, List.getElem_map, List.getElem_range, List.getElem_replicate]
  rcases (by omega : i % 2 = 0 ∨ i % 2 = 1) with h | h <;> simp [h]
theorem jbCells_zero (n : Nat) : jbCells (List.replicate n ⟨0, 0⟩) = List.replicate (n * 2) (.int .i64 0) := by
  induction n with
  | zero => rfl
  | succ n ih =>
    rw [List.replicate_succ, jbCells, List.flatMap_cons, ← jbCells, ih, show (n + 1) * 2 = n * 2 + 1 + 1 by omega]
    rfl
theorem made_jobs (n : Nat) : (madeCells #[Value.int .i64 0, .int .i64 0] (n * 2)).toList = jbCells (List.replicate n ⟨0, 0⟩) := by
  rw [made2, jbCells_zero]
def JobsPost (L : List Jb) (w : World) (e : Ending) (w' : World) : Prop := ∃ g, e = .returned (.slice (some ⟨g, 0, none⟩) L.length L.length) ∧ Row w' g 38 (jbCells L) ∧ w.heap.size ≤ g ∧ Below w.heap.size w w'
theorem szJobS_any (A : Option Addr) (n c : Nat) (hn : n ≤ maxLen) (x : Int) (hx0 : 0 ≤ x) (hx : x ≤ 1048576) (w : World) :
    Calls Try.prog 16 #[.slice A n c, .int .i64 x] w fun e w' => e = .returned (.int .i64 (if x - n < 0 then -1 else x - n)) ∧ w = w' := by
  unfold maxLen at hn
  by_cases h : x - n < 0
  · rw [if_pos h]
    go_enter Try.func16, Try.ntmps16
    go_wp2_with fail
    go_ret
    exact ⟨rfl, rfl⟩
  · rw [if_neg h]
    go_enter Try.func16, Try.ntmps16
    go_wp2_with fail
    go_ret
    exact ⟨rfl, rfl⟩
theorem toJobS_any (A : Option Addr) (c : Nat) (L : List Jb) (hn : L.length ≤ 1048576) (w : World) (hL : Jbs w w.heap.size A L) :
    Calls Try.prog 18 #[.slice A L.length c] w (JobsPost L w) := by
  obtain ⟨n, hnl⟩ : ∃ n, n = L.length := ⟨_, rfl⟩
  have Hn := Lib.hid hnl
  rw [← hnl] at hn ⊢
  have hmk := fun w => mk_rows (P := Try.prog) 25 38 _ 2 16 Try.underlying25 jobInfo (n : Int) n rfl (by omega) (by omega) w
  simp only [Value.cells] at hmk
  clear hnl
  go_enter Try.func18, Try.ntmps18
  go_wp2_with fail
  go_loopw [4] (fun i wr => ∃ (k : Nat) (M : List Jb), k ≤ n ∧ i = .int .i64 k ∧ Hid (M.length = n ∧ ∀ j, j < k → M[j]? = L[j]?) ∧ Row wr w.heap.size 38 (jbCells M) ∧ Below w.heap.size w wr) (fun i _ => n - (intOf i).toNat)
  case atStart => exact ⟨0, List.replicate n ⟨0, 0⟩, by omega, rfl, ⟨by simp, fun j hj => by omega⟩, Row.newS _ _ _ rfl (made_jobs n), (Below.refl _ _).alloc (Nat.le_refl _) _⟩
  case round =>
    obtain ⟨k, M, hk, rfl, hM, hr, hbel⟩ := hrel
    by_cases hlt : k < n
    · obtain ⟨b, off, rfl, hb, hc⟩ := hL (by rw [← Hn.out]; omega)
      obtain ⟨l, hl⟩ : ∃ l, L[k]? = some l := ⟨L[k]'(by rw [← Hn.out]; exact hlt), List.getElem?_eq_getElem _⟩
      obtain ⟨c1, c2⟩ := hc k l hl
      have d1 := (hbel.cell (p := ⟨b, _, none⟩) hb).trans c1
      have d2 := (hbel.cell (p := ⟨b, _, none⟩) hb).trans c2
      clear c1 c2 hc
      replace hl := Lib.hid hl
      go_wp2_with fail
      refine (toJob_any _ _ _).mono ?_
      rintro e w2 ⟨rfl, hb2⟩
      have hr2 := hr.below hb2 hr.lt
      have hbel2 := hbel.trans (hb2.mono hbel.size)
      clear hb2
      obtain ⟨m, hm⟩ : ∃ m, M[k]? = some m := ⟨M[k]'(by rw [hM.out.1]; exact hlt), List.getElem?_eq_getElem _⟩
      obtain ⟨g1, g2⟩ := jbCells_get M k m hm
      have e1 := hr2.cellI g1
      have e2 := hr2.cellI g2
      have f1 := hr2.frozen (k * 2)
      have f2 := hr2.frozen (k * 2 + 1)
      clear g1 g2 hm
      go_wp2_with fail
      go_roundw
      case rel => exact ⟨k + 1, M.set k l, by omega, by go_num, ⟨by rw [List.length_set]; exact hM.out.1, fun j hj => by
        rcases (by omega : j < k ∨ j = k) with h | rfl
        · rw [List.getElem?_set_ne (by omega)]; exact hM.out.2 j h
        · rw [List.getElem?_set_self (by rw [hM.out.1]; exact hlt)]; exact hl.out.symm⟩, (((hr2.set _ _).set _ _).eq (jbCells_set M k l (by rw [hM.out.1]; exact hlt))), (hbel2.setCell (by simp) _).setCell (by simp) _⟩
      case measure => simp [intOf]; omega
    · obtain rfl : k = n := by omega
      go_wp2_with fail
      go_ret
      have hML : M = L := by
        apply List.ext_getElem?
        intro j
        rcases Nat.lt_or_ge j k with h | h
        · exact hM.out.2 j h
        · rw [List.getElem?_eq_none (by rw [hM.out.1]; exact h), List.getElem?_eq_none (by rw [← Hn.out]; exact h)]
      subst hML
      exact ⟨w.heap.size, by rw [← Hn.out]; rfl, hr, Nat.le_refl _, hbel⟩
theorem eqJob_same (l : Jb) (w : World) :
    Calls Try.prog 53 #[.agg #[.int .i64 l.d, .int .i64 l.w], .agg #[.int .i64 l.d, .int .i64 l.w]] w fun e w' => e = .returned (.bool true) ∧ Below w.heap.size w w' := by
  go_enter Try.func53, Try.ntmps53
  go_wp2_with fail
  go_ret
  exact ⟨rfl, ((Below.refl _ _).alloc (Nat.le_refl _) _).alloc (by simp) _⟩
set_option maxRecDepth 100000 in
theorem eqJobS_same (A A' : Option Addr) (c c' : Nat) (L : List Jb) (hn : L.length ≤ 1048576) (w : World) (hL : Jbs w w.heap.size A L) (hL' : Jbs w w.heap.size A' L) :
    Calls Try.prog 20 #[.slice A L.length c, .slice A' L.length c'] w fun e w' => e = .returned (.bool true) ∧ Below w.heap.size w w' := by
  obtain ⟨n, hnl⟩ : ∃ n, n = L.length := ⟨_, rfl⟩
  have Hn := Lib.hid hnl
  rw [← hnl] at hn ⊢
  clear hnl
  go_enter Try.func20, Try.ntmps20
  go_wp2_with fail
  go_loopw [5] (fun i wr => ∃ k : Nat, k ≤ n ∧ i = .int .i64 k ∧ Below w.heap.size w wr) (fun i _ => n - (intOf i).toNat)
  case atStart => exact ⟨0, by omega, rfl, Below.refl _ _⟩
  case round =>
    obtain ⟨k, hk, rfl, hbel⟩ := hrel
    by_cases hlt : k < n
    · obtain ⟨b, off, rfl, hb, hc⟩ := hL (by rw [← Hn.out]; omega)
      obtain ⟨b', off', rfl, hb', hc'⟩ := hL' (by rw [← Hn.out]; omega)
      obtain ⟨l, hl⟩ : ∃ l, L[k]? = some l := ⟨L[k]'(by rw [← Hn.out]; exact hlt), List.getElem?_eq_getElem _⟩
      obtain ⟨c1, c2⟩ := hc k l hl
      obtain ⟨c1', c2'⟩ := hc' k l hl
      have d1 := (hbel.cell (p := ⟨b, _, none⟩) hb).trans c1
      have d2 := (hbel.cell (p := ⟨b, _, none⟩) hb).trans c2
      have d1' := (hbel.cell (p := ⟨b', _, none⟩) hb').trans c1'
      have d2' := (hbel.cell (p := ⟨b', _, none⟩) hb').trans c2'
      clear c1 c2 hc c1' c2' hc' hl
      go_wp2_with fail
      go_still_tail 8, (by kernel_rfl)
      change wpList _ _ _ _ _ wr.drew
      have hbd := hbel.drew
      generalize wr.drew = w3 at hbd ⊢
      clear d1 d2 d1' d2'
      go_wp2_with fail
      refine (eqJob_same l _).mono ?_
      rintro e w4 ⟨rfl, hb4⟩
      have hb5 := hbd.trans (hb4.mono hbd.size)
      clear hb4
      go_wp2_with fail
      go_roundw
      case rel => exact ⟨k + 1, by omega, by go_num, hb5⟩
      case measure => simp [intOf]; omega
    · obtain rfl : k = n := by omega
      go_wp2_with fail
      go_ret
      exact ⟨rfl, hbel⟩
end Go.Proofs.Ytglncadfmomamaa
