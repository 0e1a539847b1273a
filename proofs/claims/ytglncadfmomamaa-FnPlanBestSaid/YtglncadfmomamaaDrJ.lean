/- What the laws draw: repairs. -/
import Derived.Test.YtglncadfmomamaaOwnJ
import Derived.Test.YtglncadfmomamaaFcE
namespace Go.Proofs.Ytglncadfmomamaa
set_option linter.unusedVariables false
set_option linter.unusedSimpArgs false
open Go.RowKit
theorem grown_own {w w1 w2 : World} {r row : Option Nat} (h : w.grownBy w1 r) (k : w1.grownBy w2 row) (hr : ∀ j, row = some j → w.heap.size ≤ j) : w.grownBy w2 r :=
  ⟨k.os.trans h.os, k.tape.trans h.tape, k.output.trans h.output, Nat.le_trans h.size k.size, fun j hj hne => (k.block j (Nat.lt_of_lt_of_le hj h.size) (fun e => by have := hr j e.symm; omega)).trans (h.block j hj hne)⟩
theorem OwnJ.len {w : World} {B n c : Nat} {A : Option Addr} {L : List Jb} (h : OwnJ w B (.slice A n c) L) : n = L.length := by
  obtain ⟨A', c', e, _⟩ := h.form; injection e
theorem OwnJ.first {w : World} {B g n c : Nat} {l : Jb} {T : List Jb} (h : OwnJ w B (.slice (some ⟨g, 0, none⟩) n c) (l :: T)) (j : Nat) (u : Value) (l' : Jb) (hl : (jbCells (l :: T)).set j u = jbCells (l' :: T)) : OwnJ (w.setCell ⟨g, j, none⟩ u) B (.slice (some ⟨g, 0, none⟩) n c) (l' :: T) := by
  have hn := h.len
  subst hn
  have := World.ownsRow.stored h j u
  rw [hl] at this
  exact this.1
theorem OwnJ.frozen {w : World} {B g n c : Nat} {L : List Jb} (h : OwnJ w B (.slice (some ⟨g, 0, none⟩) n c) L) (j : Nat) : w.frozen? ⟨g, j, none⟩ = false := by
  have hn := h.len
  subst hn
  exact World.ownsRow.frozenAt h j
theorem OwnJ.cellJ {w : World} {B g n c : Nat} {L : List Jb} (h : OwnJ w B (.slice (some ⟨g, 0, none⟩) n c) L) {j : Nat} {u : Value} (hu : (jbCells L)[j]? = some u) : w.cell? ⟨g, j, none⟩ = some u := by
  have hn := h.len
  subst hn
  have hj : j < (jbCells L).length := (List.getElem?_eq_some_iff.1 hu).1
  rw [jbCells_length] at hj
  rw [World.ownsRow.cellAt h j hj]; exact hu
theorem lit_cells (w : World) (l : Jb) (g : Nat) (hg : g = w.heap.size) (j : Nat) (u : Value) (hj : (jbCells [l])[j]? = some u) : (w.alloc (Obj.cells #[.int .i64 l.d, .int .i64 l.w] 38)).cell? (Addr.add ⟨g, 0, none⟩ j) = some u := by
  subst hg
  have hr := Row.newS w 38 #[.int .i64 l.d, .int .i64 l.w] (g := w.heap.size) rfl rfl
  rw [Addr.add_lit, Nat.zero_add]
  exact hr.cellI hj
def JobsDPost (B g p most : Nat) (w : World) (e : Ending) (w' : World) : Prop := ∃ (A : Option Addr) (c p' : Nat) (L : List Jb), e = .returned (.slice A L.length c) ∧ L.length ≤ most ∧ OwnJ w' w.heap.size (.slice A L.length c) L ∧ Rd w' B g p' ∧ p' ≤ p + 100 ∧ w.grownBy w' (some g)
set_option maxRecDepth 100000 in
theorem dJobs (B g p most : Nat) (hmost : most ≤ 7) (hp : p ≤ 1000) (w : World) (h : Rd w B g p) :
    Calls Try.prog 73 #[.pointer (some ⟨g, 0, none⟩), .int .i64 most] w (JobsDPost B g p most w) := by
  have hgl := h.lt
  have hBg : B ≤ g := by obtain ⟨_, _, _, _, h2, _⟩ := h; exact h2
  go_enter Try.func73, Try.ntmps73
  go_wp2_with fail
  have hr2 : Rd (w.alloc (Obj.cells #[] 38)) B g p := h.alloc _
  have hg2 : w.grownBy (w.alloc (Obj.cells #[] 38)) (some g) := grown_alloc (grown_refl _ _) _
  have hown := OwnJ.lit0 w w.heap.size (Nat.le_refl _)
  refine (pick_any B g p ((most : Int) + 1) (by omega) (by omega) _ hr2 (by omega)).mono ?_
  rintro e w2 ⟨k, rfl, hk, hr3, hg3⟩
  obtain ⟨hk0, hk1, _⟩ := hk
  have hk7 := hk1 (by omega)
  replace hown := hown.kept hg3 (fun j hj => by injection hj with hj; omega)
  replace hg3 := grown_trans hg2 hg3
  clear hk1 hr2 hg2 h
  obtain ⟨m, rfl⟩ := Int.eq_ofNat_of_zero_le hk0
  have hm7 : m ≤ most := by omega
  have hkeep : ∀ (w1 w2 : World) (v : Value) (M : List Jb), OwnJ w1 w.heap.size v M → w1.grownBy w2 (some g) → OwnJ w2 w.heap.size v M := fun _ _ _ _ ho hg => ho.kept hg (fun j hj => by injection hj with hj; omega)
  have Hkeep := Lib.hid hkeep
  clear hkeep
  go_wp2_with fail
  go_loopw [5, 7] (fun v i wr => ∃ (j : Nat) (L : List Jb) (A' : Option Addr) (c' p' : Nat), j ≤ m ∧ i = .int .i64 j ∧ v = .slice A' j c' ∧ Hid (L.length = j) ∧ OwnJ wr w.heap.size (.slice A' j c') L ∧ Rd wr B g p' ∧ p' ≤ p + 1 + 2 * j ∧ w.grownBy wr (some g)) (fun _ i _ => m - (intOf i).toNat)
  case atStart => exact ⟨0, [], _, _, p + 1, by omega, rfl, rfl, rfl, hown, hr3, by omega, hg3⟩
  case round =>
    clear hown hr3 hg3
    obtain ⟨j, L, A', c', p', hj, rfl, rfl, hLj, hown, hr, hpp, hg⟩ := hrel
    by_cases hjm : j < m
    · go_wp2_with fail
      refine (pick_any B g p' 4 (by omega) (by omega) _ hr (by omega)).mono ?_
      rintro e w4 ⟨a, rfl, ha, hr4, hg4⟩
      obtain ⟨ha0, ha1, _⟩ := ha
      have ha5 := ha1 (by omega)
      have ho4 := Hkeep.out _ _ _ _ hown hg4
      replace hg4 := grown_trans hg hg4
      clear ha1 hown hr hg
      go_wp2_with fail
      refine (pick_any B g (p' + 1) 5 (by omega) (by omega) _ hr4 (by omega)).mono ?_
      rintro e w5 ⟨b, rfl, hb, hr5, hg5⟩
      obtain ⟨hb0, hb1, _⟩ := hb
      have hb5 := hb1 (by omega)
      have ho5 := Hkeep.out _ _ _ _ ho4 hg5
      replace hg5 := grown_trans hg4 hg5
      clear hb1 ho4 hr4 hg4
      have hsz8 := hg5.size
      go_wp2_with (at_builtin; refine appJ _ rfl _ _ rfl w.heap.size _ L [⟨1 + a, 1 + b⟩] rfl (OwnJ.alloc ho5 _) 1 1 rfl (by simp; rw [hLj.out]; omega) ⟨w5.heap.size, 0, none⟩ rfl (by exact lit_cells w5 ⟨1 + a, 1 + b⟩ _ rfl) (by simp; omega) ?_; intro A9 c9 w9 ho9 hg9)
      have hle : (L ++ [(⟨1 + a, 1 + b⟩ : Jb)]).length = j + 1 := by rw [List.length_append, hLj.out]; rfl
      have hba := (ho5.alloc (Obj.cells #[.int .i64 (1 + a), .int .i64 (1 + b)] 38)).block
      have hr9 : Rd w9 B g (p' + 1 + 1) := (hr5.grown (row := none) (grown_alloc (grown_refl _ _) _) (by simp) (fun k hk => by cases hk)).grown hg9 (fun h => by have := hba g h.symm; omega) (fun k hk => by have := hba k hk; omega)
      have hg10 : w.grownBy w9 (some g) := grown_own (grown_alloc hg5 _) hg9 (fun k hk => (hba k hk).1)
      rw [hle] at ho9
      go_wp2_with fail
      go_roundw
      case rel => exact ⟨j + 1, _, A9, c9, p' + 1 + 1, by omega, by go_num, by rw [hLj.out], hle, ho9, hr9, by omega, hg10⟩
      case measure => simp [intOf]; omega
    · obtain rfl : j = m := by omega
      cases L with
      | nil =>
        obtain rfl : j = 0 := hLj.out.symm
        go_wp2_with fail
        go_ret
        exact ⟨A', c', p', [], rfl, by simp, hown, hr, by omega, hg⟩
      | cons l T =>
        have hj0 : 0 < j := by have := hLj.out; simp at this; omega
        obtain ⟨o, rfl, hoB, hol⟩ : ∃ o, A' = some ⟨o, 0, none⟩ ∧ w.heap.size ≤ o ∧ o < wr.heap.size := by
          rcases hown.spot with rfl | h
          · have h2 := hown
            unfold OwnJ at h2
            rcases h2.2 with ⟨_, e⟩ | ⟨_, _, _, e, _⟩
            · simp at e
            · cases e
          · exact h
        obtain rfl : j = T.length + 1 := by have := hLj.out; simpa using this.symm
        go_wp2_with fail
        refine (pick_any B g p' 40 (by omega) (by omega) _ hr (by omega)).mono ?_
        rintro e w4 ⟨x, rfl, _, hr4, hg4⟩
        have ho4 := hown.kept hg4 (fun j hj => by injection hj with hj; omega)
        replace hg4 := grown_trans hg hg4
        clear hown hr hg hLj
        have hlit := Row.newS w4 3 #[.int .i64 0, .int .i64 10] (g := w4.heap.size) rfl rfl
        have hsz := hg4.size
        have hx' : x = 0 ∨ x = 1 ∨ (x ≠ 0 ∧ x ≠ 1) := by omega
        rcases hx' with rfl | rfl | ⟨x0, x1⟩
        · go_wp2_with fail
          refine (pick_any B g (p' + 1) 2 (by omega) (by omega) _ (hr4.alloc _) (by omega)).mono ?_
          rintro e w5 ⟨y, rfl, ⟨hy0, hy1, _⟩, hr5, hg5⟩
          have hy2 := hy1 (by omega)
          have hl5 := hlit.grown hg5 (by simp; omega)
          have ho5 := (ho4.alloc _).kept hg5 (fun j hj => by injection hj with hj; omega)
          replace hg5 := grown_trans (grown_alloc hg4 _) hg5
          clear hy1 hlit ho4 hr4 hg4
          have hf := ho5.frozen 0
          have hc2 := ho5.cellJ (j := 0) (u := .int .i64 l.d) rfl
          rcases (by omega : y = 0 ∨ y = 1) with rfl | rfl
          · have hc := hl5.cellI (i := 0) rfl
            have hst := ho5.first 0 (.int .i64 0) ⟨0, l.w⟩ rfl
            have hrs := hr5.grown (grown_set w5 o 0 (.int .i64 0)) (by simp; omega) (fun k hk => by injection hk with hk; omega)
            have hgs := grown_own hg5 (grown_set w5 o 0 (.int .i64 0)) (fun k hk => by injection hk with hk; omega)
            go_wp2_with fail
            go_ret
            exact ⟨some ⟨o, 0, none⟩, c', p' + 1 + 1, ⟨0, l.w⟩ :: T, rfl, by simp; omega, hst, hrs, by omega, hgs⟩
          · have hc := hl5.cellI (i := 1) rfl
            have hst := ho5.first 0 (.int .i64 10) ⟨10, l.w⟩ rfl
            have hrs := hr5.grown (grown_set w5 o 0 (.int .i64 10)) (by simp; omega) (fun k hk => by injection hk with hk; omega)
            have hgs := grown_own hg5 (grown_set w5 o 0 (.int .i64 10)) (fun k hk => by injection hk with hk; omega)
            go_wp2_with fail
            go_ret
            exact ⟨some ⟨o, 0, none⟩, c', p' + 1 + 1, ⟨10, l.w⟩ :: T, rfl, by simp; omega, hst, hrs, by omega, hgs⟩
        · go_wp2_with fail
          refine (pick_any B g (p' + 1) 2 (by omega) (by omega) _ (hr4.alloc _) (by omega)).mono ?_
          rintro e w5 ⟨y, rfl, ⟨hy0, hy1, _⟩, hr5, hg5⟩
          have hy2 := hy1 (by omega)
          have hl5 := hlit.grown hg5 (by simp; omega)
          have ho5 := (ho4.alloc _).kept hg5 (fun j hj => by injection hj with hj; omega)
          replace hg5 := grown_trans (grown_alloc hg4 _) hg5
          clear hy1 hlit ho4 hr4 hg4
          have hf := ho5.frozen 1
          have hc2 := ho5.cellJ (j := 1) (u := .int .i64 l.w) rfl
          rcases (by omega : y = 0 ∨ y = 1) with rfl | rfl
          · have hc := hl5.cellI (i := 0) rfl
            have hst := ho5.first 1 (.int .i64 0) ⟨l.d, 0⟩ rfl
            have hrs := hr5.grown (grown_set w5 o 1 (.int .i64 0)) (by simp; omega) (fun k hk => by injection hk with hk; omega)
            have hgs := grown_own hg5 (grown_set w5 o 1 (.int .i64 0)) (fun k hk => by injection hk with hk; omega)
            go_wp2_with fail
            go_ret
            exact ⟨some ⟨o, 0, none⟩, c', p' + 1 + 1, ⟨l.d, 0⟩ :: T, rfl, by simp; omega, hst, hrs, by omega, hgs⟩
          · have hc := hl5.cellI (i := 1) rfl
            have hst := ho5.first 1 (.int .i64 10) ⟨l.d, 10⟩ rfl
            have hrs := hr5.grown (grown_set w5 o 1 (.int .i64 10)) (by simp; omega) (fun k hk => by injection hk with hk; omega)
            have hgs := grown_own hg5 (grown_set w5 o 1 (.int .i64 10)) (fun k hk => by injection hk with hk; omega)
            go_wp2_with fail
            go_ret
            exact ⟨some ⟨o, 0, none⟩, c', p' + 1 + 1, ⟨l.d, 10⟩ :: T, rfl, by simp; omega, hst, hrs, by omega, hgs⟩
        · have t0 := bF x0
          have t1 := bF x1
          clear hlit
          go_wp2_with fail
          go_ret
          exact ⟨some ⟨o, 0, none⟩, c', p' + 1, l :: T, rfl, by simp; omega, ho4, hr4, by omega, hg4⟩
end Go.Proofs.Ytglncadfmomamaa
