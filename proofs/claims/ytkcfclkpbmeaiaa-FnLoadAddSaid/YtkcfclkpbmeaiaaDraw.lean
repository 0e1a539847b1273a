/- What the laws draw: nets. -/
import Derived.Test.YtkcfclkpbmeaiaaOwnL
import Derived.Test.YtkcfclkpbmeaiaaRd
namespace Go.Proofs.Ytkcfclkpbmeaiaa
set_option linter.unusedVariables false
set_option linter.unusedSimpArgs false
open Go.RowKit
def NetPost (B g p : Nat) (w : World) (e : Ending) (w' : World) : Prop := ∃ (n : Int) (A : Option Addr) (c p' : Nat) (L : List Ln), e = .returned (.tuple #[.int .i64 n, .slice A L.length c]) ∧ 2 ≤ n ∧ n ≤ 5 ∧ L.length ≤ 7 ∧ OwnL w' w.heap.size (.slice A L.length c) L ∧ Rd w' B g p' ∧ p' ≤ p + 100 ∧ w.grownBy w' (some g)
theorem grown_own {w w1 w2 : World} {r row : Option Nat} (h : w.grownBy w1 r) (k : w1.grownBy w2 row) (hr : ∀ j, row = some j → w.heap.size ≤ j) : w.grownBy w2 r :=
  ⟨k.os.trans h.os, k.tape.trans h.tape, k.output.trans h.output, Nat.le_trans h.size k.size, fun j hj hne => (k.block j (Nat.lt_of_lt_of_le hj h.size) (fun e => by have := hr j e.symm; omega)).trans (h.block j hj hne)⟩
theorem Rd.lt {w : World} {B g p : Nat} (h : Rd w B g p) : g < w.heap.size := by
  obtain ⟨A, n, c, hrow, _⟩ := h
  exact hrow.lt
theorem Rd.alloc {w : World} {B g p : Nat} (h : Rd w B g p) (o : Obj) : Rd (w.alloc o) B g p := h.grown (row := none) (grown_alloc (grown_refl _ _) o) (by simp) (by simp)
theorem OwnL.len {w : World} {B n c : Nat} {A : Option Addr} {L : List Ln} (h : OwnL w B (.slice A n c) L) : n = L.length := by
  obtain ⟨A', c', e, _⟩ := h.form; injection e
theorem OwnL.first {w : World} {B g n c : Nat} {l : Ln} {T : List Ln} (h : OwnL w B (.slice (some ⟨g, 0, none⟩) n c) (l :: T)) (j : Nat) (u : Value) (l' : Ln) (hl : (lnCells (l :: T)).set j u = lnCells (l' :: T)) : OwnL (w.setCell ⟨g, j, none⟩ u) B (.slice (some ⟨g, 0, none⟩) n c) (l' :: T) := by
  have hn := h.len
  subst hn
  have := World.ownsRow.stored h j u
  rw [hl] at this
  exact this.1
theorem OwnL.frozen {w : World} {B g n c : Nat} {L : List Ln} (h : OwnL w B (.slice (some ⟨g, 0, none⟩) n c) L) (j : Nat) : w.frozen? ⟨g, j, none⟩ = false := by
  have hn := h.len
  subst hn
  exact World.ownsRow.frozenAt h j
theorem OwnL.cellJ {w : World} {B g n c : Nat} {L : List Ln} (h : OwnL w B (.slice (some ⟨g, 0, none⟩) n c) L) {j : Nat} {u : Value} (hu : (lnCells L)[j]? = some u) : w.cell? ⟨g, j, none⟩ = some u := by
  have hn := h.len
  subst hn
  have hj : j < (lnCells L).length := (List.getElem?_eq_some_iff.1 hu).1
  rw [lnCells_length] at hj
  rw [World.ownsRow.cellAt h j hj]; exact hu
theorem lit_cells (w : World) (l : Ln) (g : Nat) (hg : g = w.heap.size) (j : Nat) (u : Value) (hj : (lnCells [l])[j]? = some u) : (w.alloc (Obj.cells #[.int .i64 l.a, .int .i64 l.b, .int .i64 l.c] 36)).cell? (Addr.add ⟨g, 0, none⟩ j) = some u := by
  subst hg
  have hr := Row.newS w 36 #[.int .i64 l.a, .int .i64 l.b, .int .i64 l.c] (g := w.heap.size) rfl rfl
  rw [Addr.add_lit, Nat.zero_add]
  exact hr.cellI hj
set_option maxRecDepth 100000 in
theorem dNet (B g p : Nat) (hp : p ≤ 1000) (w : World) (h : Rd w B g p) :
    Calls Try.prog 58 #[.pointer (some ⟨g, 0, none⟩)] w (NetPost B g p w) := by
  have hgl := h.lt
  have hBg : B ≤ g := by obtain ⟨_, _, _, _, h2, _⟩ := h; exact h2
  go_enter Try.func58, Try.ntmps58
  go_wp2_with fail
  refine (pick_any B g p 4 (by omega) (by omega) _ h (by omega)).mono ?_
  rintro e w1 ⟨n0, rfl, hn0, hr1, hg1⟩
  obtain ⟨hn00, hn01, _⟩ := hn0
  have hn03 := hn01 (by omega)
  clear hn01
  go_wp2_with fail
  have hr2 : Rd (w1.alloc (Obj.cells #[] 36)) B g (p + 1) := hr1.grown (row := none) (grown_alloc (grown_refl _ _) _) (by simp) (fun k hk => by cases hk)
  have hg2 : w.grownBy (w1.alloc (Obj.cells #[] 36)) (some g) := grown_alloc hg1 _
  have hown := OwnL.lit0 w1 w.heap.size hg1.size
  refine (pick_any B g (p + 1) 8 (by omega) (by omega) _ hr2 (by omega)).mono ?_
  rintro e w2 ⟨k, rfl, hk, hr3, hg3⟩
  obtain ⟨hk0, hk1, _⟩ := hk
  have hk7 := hk1 (by omega)
  replace hown := hown.kept hg3 (fun j hj => by injection hj with hj; omega)
  replace hg3 := grown_trans hg2 hg3
  clear hk1 hr2 hg2 hr1 hg1 h
  obtain ⟨m, rfl⟩ := Int.eq_ofNat_of_zero_le hk0
  have hm7 : m ≤ 7 := by omega
  go_wp2_with fail
  go_loopw [5, 7, 8, 9] (fun v i _ _ wr => ∃ (j : Nat) (L : List Ln) (A' : Option Addr) (c' p' : Nat), j ≤ m ∧ i = .int .i64 j ∧ v = .slice A' j c' ∧ Hid (L.length = j) ∧ OwnL wr w.heap.size (.slice A' j c') L ∧ Rd wr B g p' ∧ p' ≤ p + 2 + 5 * j ∧ w.grownBy wr (some g)) (fun _ i _ _ _ => m - (intOf i).toNat)
  case atStart => exact ⟨0, [], _, _, p + 1 + 1, by omega, rfl, rfl, rfl, hown, hr3, by omega, hg3⟩
  case round =>
    clear hown hr3 hg3
    obtain ⟨j, L, A', c', p', hj, rfl, rfl, hLj, hown, hr, hpp, hg⟩ := hrel
    by_cases hjm : j < m
    · go_wp2_with fail
      have hkeep : ∀ (w1 w2 : World) (v : Value) (M : List Ln), OwnL w1 w.heap.size v M → w1.grownBy w2 (some g) → OwnL w2 w.heap.size v M := fun _ _ _ _ ho hg => ho.kept hg (fun j hj => by injection hj with hj; omega)
      have Hkeep := Lib.hid hkeep
      clear hkeep
      refine (pick_any B g p' (2 + n0) (by omega) (by omega) _ hr (by omega)).mono ?_
      rintro e w4 ⟨a, rfl, ha, hr4, hg4⟩
      obtain ⟨ha0, ha1, _⟩ := ha
      have ha5 := ha1 (by omega)
      have ho4 := Hkeep.out _ _ _ _ hown hg4
      replace hg4 := grown_trans hg hg4
      clear ha1 hown hr hg
      go_wp2_with fail
      refine (pick_any B g (p' + 1) (2 + n0 - 1) (by omega) (by omega) _ hr4 (by omega)).mono ?_
      rintro e w5 ⟨b, rfl, hb, hr5, hg5⟩
      obtain ⟨hb0, hb1, _⟩ := hb
      have hb5 := hb1 (by omega)
      have ho5 := Hkeep.out _ _ _ _ ho4 hg5
      replace hg5 := grown_trans hg4 hg5
      clear hb1 ho4 hr4 hg4
      have hne : ¬ 2 + n0 = 0 := by omega
      go_wp2_with fail
      go_wp2_with fail
      · refine (pick_any B g (p' + 1 + 1) 3 (by omega) (by omega) _ hr5 (by omega)).mono ?_
        rintro e w6 ⟨x, rfl, hx, hr6, hg6⟩
        have ho6 := Hkeep.out _ _ _ _ ho5 hg6
        replace hg6 := grown_trans hg5 hg6
        clear hx ho5 hr5 hg5
        by_cases hx0 : 0 < x
        · go_wp2_with fail
          refine (pick_any B g (p' + 1 + 1 + 1) ((j : Int) + 1) (by omega) (by omega) _ hr6 (by omega)).mono ?_
          rintro e w7 ⟨y, rfl, hy, hr7, hg7⟩
          have ho7 := Hkeep.out _ _ _ _ ho6 hg7
          replace hg7 := grown_trans hg6 hg7
          clear ho6 hr6 hg6
          go_wp2_with fail
          refine (pick_any B g (p' + 1 + 1 + 1 + 1) 4 (by omega) (by omega) _ hr7 (by omega)).mono ?_
          rintro e w8 ⟨d, rfl, hd, hr8, hg8⟩
          obtain ⟨hd0, hd1, _⟩ := hd
          have hd5 := hd1 (by omega)
          have ho8 := Hkeep.out _ _ _ _ ho7 hg8
          replace hg8 := grown_trans hg7 hg8
          clear hd1
          have hsz8 := hg8.size
          go_wp2_with (at_builtin; refine appL _ rfl _ _ rfl w.heap.size _ L [⟨((j : Int) + 1), y, 1 + d⟩] rfl (OwnL.alloc ho8 _) 1 1 rfl (by simp; rw [hLj.out]; omega) ⟨w8.heap.size, 0, none⟩ rfl (by exact lit_cells w8 ⟨((j : Int) + 1), y, 1 + d⟩ _ rfl) (by simp; omega) ?_; intro A9 c9 w9 ho9 hg9)
          have hle : (L ++ [(⟨((j : Int) + 1), y, 1 + d⟩ : Ln)]).length = j + 1 := by rw [List.length_append, hLj.out]; rfl
          have hba := (ho8.alloc (Obj.cells #[.int .i64 ((j : Int) + 1), .int .i64 y, .int .i64 (1 + d)] 36)).block
          have hr9 : Rd w9 B g (p' + 1 + 1 + 1 + 1 + 1) := (hr8.grown (row := none) (grown_alloc (grown_refl _ _) _) (by simp) (fun k hk => by cases hk)).grown hg9 (fun h => by have := hba g h.symm; omega) (fun k hk => by have := hba k hk; omega)
          have hg10 : w.grownBy w9 (some g) := grown_own (grown_alloc hg8 _) hg9 (fun k hk => (hba k hk).1)
          rw [hle] at ho9
          go_wp2_with fail
          go_roundw
          case rel => exact ⟨j + 1, _, A9, c9, p' + 1 + 1 + 1 + 1 + 1, by omega, by go_num, by rw [hLj.out], hle, ho9, hr9, by omega, hg10⟩
          case measure => simp [intOf]; omega
        · go_wp2_with fail
          refine (pick_any B g (p' + 1 + 1 + 1) 4 (by omega) (by omega) _ hr6 (by omega)).mono ?_
          rintro e w8 ⟨d, rfl, hd, hr8, hg8⟩
          obtain ⟨hd0, hd1, _⟩ := hd
          have hd5 := hd1 (by omega)
          have ho8 := Hkeep.out _ _ _ _ ho6 hg8
          replace hg8 := grown_trans hg6 hg8
          clear hd1
          have hsz8 := hg8.size
          go_wp2_with (at_builtin; refine appL _ rfl _ _ rfl w.heap.size _ L [⟨a, ((a + 1 + b) % (2 + n0)), 1 + d⟩] rfl (OwnL.alloc ho8 _) 1 1 rfl (by simp; rw [hLj.out]; omega) ⟨w8.heap.size, 0, none⟩ rfl (by exact lit_cells w8 ⟨a, ((a + 1 + b) % (2 + n0)), 1 + d⟩ _ rfl) (by simp; omega) ?_; intro A9 c9 w9 ho9 hg9)
          have hle : (L ++ [(⟨a, ((a + 1 + b) % (2 + n0)), 1 + d⟩ : Ln)]).length = j + 1 := by rw [List.length_append, hLj.out]; rfl
          have hba := (ho8.alloc (Obj.cells #[.int .i64 a, .int .i64 ((a + 1 + b) % (2 + n0)), .int .i64 (1 + d)] 36)).block
          have hr9 : Rd w9 B g (p' + 1 + 1 + 1 + 1) := (hr8.grown (row := none) (grown_alloc (grown_refl _ _) _) (by simp) (fun k hk => by cases hk)).grown hg9 (fun h => by have := hba g h.symm; omega) (fun k hk => by have := hba k hk; omega)
          have hg10 : w.grownBy w9 (some g) := grown_own (grown_alloc hg8 _) hg9 (fun k hk => (hba k hk).1)
          rw [hle] at ho9
          go_wp2_with fail
          go_roundw
          case rel => exact ⟨j + 1, _, A9, c9, p' + 1 + 1 + 1 + 1, by omega, by go_num, by rw [hLj.out], hle, ho9, hr9, by omega, hg10⟩
          case measure => simp [intOf]; omega
      · refine (pick_any B g (p' + 1 + 1) 4 (by omega) (by omega) _ hr5 (by omega)).mono ?_
        rintro e w8 ⟨d, rfl, hd, hr8, hg8⟩
        obtain ⟨hd0, hd1, _⟩ := hd
        have hd5 := hd1 (by omega)
        have ho8 := Hkeep.out _ _ _ _ ho5 hg8
        replace hg8 := grown_trans hg5 hg8
        clear hd1
        have hsz8 := hg8.size
        go_wp2_with (at_builtin; refine appL _ rfl _ _ rfl w.heap.size _ L [⟨a, (a + 1 + b) % (2 + n0), 1 + d⟩] rfl (OwnL.alloc ho8 _) 1 1 rfl (by simp; rw [hLj.out]; omega) ⟨w8.heap.size, 0, none⟩ rfl (by exact lit_cells w8 ⟨a, (a + 1 + b) % (2 + n0), 1 + d⟩ _ rfl) (by simp; omega) ?_; intro A9 c9 w9 ho9 hg9)
        have hle : (L ++ [(⟨a, (a + 1 + b) % (2 + n0), 1 + d⟩ : Ln)]).length = j + 1 := by rw [List.length_append, hLj.out]; rfl
        have hba := (ho8.alloc (Obj.cells #[.int .i64 a, .int .i64 ((a + 1 + b) % (2 + n0)), .int .i64 (1 + d)] 36)).block
        have hr9 : Rd w9 B g (p' + 1 + 1 + 1) := (hr8.grown (row := none) (grown_alloc (grown_refl _ _) _) (by simp) (fun k hk => by cases hk)).grown hg9 (fun h => by have := hba g h.symm; omega) (fun k hk => by have := hba k hk; omega)
        have hg10 : w.grownBy w9 (some g) := grown_own (grown_alloc hg8 _) hg9 (fun k hk => (hba k hk).1)
        rw [hle] at ho9
        go_wp2_with fail
        go_roundw
        case rel => exact ⟨j + 1, _, A9, c9, p' + 1 + 1 + 1, by omega, by go_num, by rw [hLj.out], hle, ho9, hr9, by omega, hg10⟩
        case measure => simp [intOf]; omega
    · obtain rfl : j = m := by omega
      cases L with
      | nil =>
        obtain rfl : j = 0 := hLj.out.symm
        go_wp2_with fail
        go_ret2
        exact ⟨2 + n0, A', c', p', [], rfl, by omega, by omega, by simp, hown, hr, by omega, hg⟩
      | cons l T =>
        have hj0 : 0 < j := by have := hLj.out; simp at this; omega
        obtain ⟨o, rfl, hoB, hol⟩ : ∃ o, A' = some ⟨o, 0, none⟩ ∧ w.heap.size ≤ o ∧ o < wr.heap.size := by
          rcases hown.spot with rfl | h
          · have h2 := hown
            unfold OwnL at h2
            rcases h2.2 with ⟨_, e⟩ | ⟨_, _, _, e, _⟩
            · simp at e
            · cases e
          · exact h
        obtain rfl : j = T.length + 1 := by have := hLj.out; simpa using this.symm
        go_wp2_with fail
        refine (pick_any B g p' 40 (by omega) (by omega) _ hr (by omega)).mono ?_
        rintro e w4 ⟨x, rfl, _, hr4, hg4⟩
        have ho4 := hown.kept hg4 (fun j hj => by injection hj with hj; omega)
        replace hg4 := grown_trans hg hg4
        clear hown hr hg hLj
        have hc0 := ho4.cellJ (j := 0) (u := .int .i64 l.a) rfl
        have hc1 := ho4.cellJ (j := 1) (u := .int .i64 l.b) rfl
        have hc2 := ho4.cellJ (j := 2) (u := .int .i64 l.c) rfl
        have hx' : x = 0 ∨ x = 1 ∨ x = 2 ∨ (x ≠ 0 ∧ x ≠ 1 ∧ x ≠ 2) := by omega
        rcases hx' with rfl | rfl | rfl | ⟨x0, x1, x2⟩
        · have hf := ho4.frozen 1
          have hst := ho4.first 1 (.int .i64 l.a) ⟨l.a, l.a, l.c⟩ rfl
          have hrs := hr4.grown (grown_set w4 o 1 (.int .i64 l.a)) (by simp; omega) (fun k hk => by injection hk with hk; omega)
          have hgs := grown_own hg4 (grown_set w4 o 1 (.int .i64 l.a)) (fun k hk => by injection hk with hk; omega)
          go_wp2_with fail
          go_ret2
          exact ⟨2 + n0, some ⟨o, 0, none⟩, c', p' + 1, ⟨l.a, l.a, l.c⟩ :: T, rfl, by omega, by omega, by simp; omega, hst, hrs, by omega, hgs⟩
        · have hf := ho4.frozen 2
          have hlit := Row.newS w4 3 #[.int .i64 0, .int .i64 10] (g := w4.heap.size) rfl rfl
          have hsz := hg4.size
          go_wp2_with fail
          refine (pick_any B g (p' + 1) 2 (by omega) (by omega) _ (hr4.alloc _) (by omega)).mono ?_
          rintro e w5 ⟨y, rfl, ⟨hy0, hy1, _⟩, hr5, hg5⟩
          have hy2 := hy1 (by omega)
          have hl5 := hlit.grown hg5 (by simp; omega)
          have ho5 := (ho4.alloc _).kept hg5 (fun j hj => by injection hj with hj; omega)
          replace hg5 := grown_trans (grown_alloc hg4 _) hg5
          clear hy1 hlit hc0 hc1 hc2 hf ho4 hr4 hg4
          have hf := ho5.frozen 2
          have hc2 := ho5.cellJ (j := 2) (u := .int .i64 l.c) rfl
          rcases (by omega : y = 0 ∨ y = 1) with rfl | rfl
          · have hc := hl5.cellI (i := 0) rfl
            have hst := ho5.first 2 (.int .i64 0) ⟨l.a, l.b, 0⟩ rfl
            have hrs := hr5.grown (grown_set w5 o 2 (.int .i64 0)) (by simp; omega) (fun k hk => by injection hk with hk; omega)
            have hgs := grown_own hg5 (grown_set w5 o 2 (.int .i64 0)) (fun k hk => by injection hk with hk; omega)
            go_wp2_with fail
            go_ret2
            exact ⟨2 + n0, some ⟨o, 0, none⟩, c', p' + 1 + 1, ⟨l.a, l.b, 0⟩ :: T, rfl, by omega, by omega, by simp; omega, hst, hrs, by omega, hgs⟩
          · have hc := hl5.cellI (i := 1) rfl
            have hst := ho5.first 2 (.int .i64 10) ⟨l.a, l.b, 10⟩ rfl
            have hrs := hr5.grown (grown_set w5 o 2 (.int .i64 10)) (by simp; omega) (fun k hk => by injection hk with hk; omega)
            have hgs := grown_own hg5 (grown_set w5 o 2 (.int .i64 10)) (fun k hk => by injection hk with hk; omega)
            go_wp2_with fail
            go_ret2
            exact ⟨2 + n0, some ⟨o, 0, none⟩, c', p' + 1 + 1, ⟨l.a, l.b, 10⟩ :: T, rfl, by omega, by omega, by simp; omega, hst, hrs, by omega, hgs⟩
        · have hf := ho4.frozen 0
          have hst := ho4.first 0 (.int .i64 (2 + n0)) ⟨2 + n0, l.b, l.c⟩ rfl
          have hrs := hr4.grown (grown_set w4 o 0 (.int .i64 (2 + n0))) (by simp; omega) (fun k hk => by injection hk with hk; omega)
          have hgs := grown_own hg4 (grown_set w4 o 0 (.int .i64 (2 + n0))) (fun k hk => by injection hk with hk; omega)
          go_wp2_with fail
          go_ret2
          exact ⟨2 + n0, some ⟨o, 0, none⟩, c', p' + 1, ⟨2 + n0, l.b, l.c⟩ :: T, rfl, by omega, by omega, by simp; omega, hst, hrs, by omega, hgs⟩
        · have t0 := bF x0
          have t1 := bF x1
          have t2 := bF x2
          go_wp2_with fail
          go_ret2
          exact ⟨2 + n0, some ⟨o, 0, none⟩, c', p' + 1, l :: T, rfl, by omega, by omega, by simp; omega, ho4, hr4, by omega, hg4⟩
end Go.Proofs.Ytkcfclkpbmeaiaa
