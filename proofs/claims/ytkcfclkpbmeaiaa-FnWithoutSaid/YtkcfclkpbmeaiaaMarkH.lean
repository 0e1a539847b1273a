/- The laws' marking of lines that came back, and the reading of the marks. -/
import Derived.Test.YtkcfclkpbmeaiaaWout2
import Derived.Test.YtkcfclkpbmeaiaaMark
namespace Go.Proofs.Ytkcfclkpbmeaiaa
set_option linter.unusedVariables false
set_option linter.unusedSimpArgs false
open Go.RowKit
theorem HoldL.cells {w : World} {B g : Nat} {L : List Ln} (h : HoldL w B (some ⟨g, 0, none⟩) L) {j : Nat} {u : Value} (hj : (lnCells L)[j]? = some u) : w.cell? ⟨g, j, none⟩ = some u := by
  rcases h with ⟨e, _⟩ | ⟨g', cur, e, _, hr, ht⟩
  · cases e
  · injection e with e; injection e with e; subst e
    rw [cell_of_row w g _ cur 36 (0, 0) hr, ← Array.getElem?_toList]
    rw [← ht, List.getElem?_take] at hj
    split at hj
    · exact hj
    · cases hj
theorem HoldL.frozen {w : World} {B g : Nat} {L : List Ln} (h : HoldL w B (some ⟨g, 0, none⟩) L) (j : Nat) : w.frozen? ⟨g, j, none⟩ = false := by
  rcases h with ⟨e, _⟩ | ⟨g', cur, e, _, hr, ht⟩
  · cases e
  · injection e with e; injection e with e; subst e
    exact frozen_of_row w g _ cur 36 hr
theorem HoldL.set3 {w : World} {B g : Nat} {L : List Ln} (h : HoldL w B (some ⟨g, 0, none⟩) L) (i : Nat) (l : Ln) (hi : i < L.length) :
    HoldL (((w.setCell ⟨g, i * 3, none⟩ (.int .i64 l.a)).setCell ⟨g, i * 3 + 1, none⟩ (.int .i64 l.b)).setCell ⟨g, i * 3 + 2, none⟩ (.int .i64 l.c)) B (some ⟨g, 0, none⟩) (L.set i l) := by
  rcases h with ⟨e, _⟩ | ⟨g', cur, e, hB, hr, ht⟩
  · cases e
  · injection e with e; injection e with e; subst e
    have h1 := heap_setCell_same w g (i * 3) cur 36 (.int .i64 l.a) hr
    have h2 := heap_setCell_same _ g (i * 3 + 1) _ 36 (.int .i64 l.b) h1
    have h3 := heap_setCell_same _ g (i * 3 + 2) _ 36 (.int .i64 l.c) h2
    refine .inr ⟨g, _, rfl, hB, h3, ?_⟩
    rw [Array.toList_setIfInBounds, Array.toList_setIfInBounds, Array.toList_setIfInBounds, List.length_set, List.take_set, List.take_set, List.take_set, ht, lnCells_set L i l hi]
theorem HoldL.kept {w w' : World} {B : Nat} {A : Option Addr} {L : List Ln} {row : Option Nat} (h : HoldL w B A L) (hg : w.grownBy w' row) (hne : ∀ k, row = some k → k < B) : HoldL w' B A L := by
  have h' := h
  rcases h with h1 | ⟨g, cur, rfl, hB, hr, ht⟩
  · exact .inl h1
  · exact .inr ⟨g, cur, rfl, hB, (hg.block g h'.lt (fun e => by have := hne g e.symm; omega)).trans hr, ht⟩
def marks (K : Int) (n : Nat) : List Ln := (List.range n).map fun (j : Nat) => ⟨K + 3 * j, K + 3 * j + 1, K + 3 * j + 2⟩
theorem marks_len (K : Int) (n : Nat) : (marks K n).length = n := by simp [marks]
theorem marks_get (K : Int) (n j : Nat) (h : j < n) : (marks K n)[j]? = some ⟨K + 3 * j, K + 3 * j + 1, K + 3 * j + 2⟩ := by simp [marks, h]
def MarkHPost (K : Int) (n B : Nat) (A : Option Addr) (w : World) (e : Ending) (w' : World) : Prop := e = .returned (.int .i64 (K + 3 * n)) ∧ HoldL w' B A (marks K n) ∧ Below B w w'
def HlPost (R : List Ln → Bool → Prop) (w : World) (e : Ending) (w' : World) : Prop := ∃ A c M ok, e = .returned (.tuple #[.slice A M.length c, .bool ok]) ∧ R M ok ∧ HoldL w' w.heap.size A M ∧ Below w.heap.size w w'
def LpPost (R : List Ln → Bool → Prop) (w : World) (e : Ending) (w' : World) : Prop := ∃ A c M ok, e = .returned (.tuple #[.slice A M.length c, .bool ok]) ∧ R M ok ∧ Lns w' w'.heap.size A M ∧ Below w.heap.size w w'
theorem sNetWithout' (n : Int) (A : Option Addr) (c : Nat) (L : List Ln) (k : Int) (hL1 : L.length ≤ 1048576) (w : World) (hL : Lns w w.heap.size A L) (hcap : L.length ≤ c := by exact Nat.le_refl _) :
    Calls Try.prog 20 #[.int .i64 n, .slice A L.length c, .int .i64 k] w (LpPost (WoutR n L k) w) :=
  (sNetWithout n A c L k hL1 hcap w hL).mono fun _ _ ⟨A, c, M, ok, h1, h2, h3, h4⟩ => ⟨A, c, M, ok, h1, h2, h3.lns, h4⟩
theorem WoutR_fn {n : Int} {L : List Ln} {k : Int} (M : List Ln) (ok : Bool) (M' : List Ln) (ok' : Bool) (h : WoutR n L k M ok) (h' : WoutR n L k M' ok') : M = M' ∧ ok = ok' := ⟨h.1.trans h'.1.symm, h.2.trans h'.2.symm⟩
theorem WoutR_len {n : Int} {L : List Ln} {k : Int} {M : List Ln} {ok : Bool} (h : WoutR n L k M ok) : M.length ≤ 1048576 := by
  obtain ⟨rfl, _⟩ := h
  unfold woutV
  split
  · rename_i h1
    unfold woutOk at h1
    rw [Bool.and_eq_true] at h1
    obtain ⟨_, _, h2, _⟩ := netOk_n h1.1
    have := List.length_eraseIdx_le L k.toNat
    omega
  · simp
set_option maxRecDepth 100000 in
theorem iNetWithout (n : Int) (A : Option Addr) (c : Nat) (L : List Ln) (k : Int) (hL1 : L.length ≤ 1048576) (w : World) (hL : Lns w w.heap.size A L) (hcap : L.length ≤ c := by exact Nat.le_refl _) (hcm : c ≤ maxLen := by unfold maxLen; omega) :
    Calls Try.prog 19 #[.int .i64 n, .slice A L.length c, .int .i64 k] w (HlPost (WoutR n L k) w) := by
  have HN := implNet n A c L hL1 w hL
  cases h1 : netOk n L with
  | false =>
    rw [h1] at HN
    replace HN := Lib.hid HN
    have HR : Hid (WoutR n L k [] false) := ⟨by rw [woutV, woutOk, h1]; rfl, by rw [woutOk, h1]; rfl⟩
    clear h1
    go_enter Try.func19, Try.ntmps19
    go_wp2_with fail
    refine HN.out.mono ?_
    rintro e w1 ⟨rfl, hb⟩
    go_wp2_with fail
    go_ret2
    exact ⟨none, 0, [], false, rfl, HR.out, .inl ⟨rfl, rfl⟩, hb⟩
  | true =>
    rw [h1] at HN
    replace HN := Lib.hid HN
    obtain ⟨b, hb0⟩ : ∃ b, b = inB k 0 (L.length - 1) := ⟨_, rfl⟩
    have hI := fun w => within_b k 0 (L.length - 1) b hb0.symm w
    cases b with
    | false =>
      have HR : Hid (WoutR n L k [] false) := ⟨by rw [woutV, woutOk, h1, ← hb0]; rfl, by rw [woutOk, h1, ← hb0]; rfl⟩
      clear h1 hb0
      go_enter Try.func19, Try.ntmps19
      go_wp2_with fail
      refine HN.out.mono ?_
      rintro e w1 ⟨rfl, hb⟩
      go_wp2_with fail
      refine (hI _).mono ?_
      rintro e w2 ⟨rfl, rfl⟩
      go_wp2_with fail
      go_ret2
      exact ⟨none, 0, [], false, rfl, HR.out, .inl ⟨rfl, rfl⟩, hb⟩
    | true =>
      obtain ⟨hk0, hk1⟩ := inB_iff.1 hb0.symm
      obtain ⟨kk, rfl⟩ := Int.eq_ofNat_of_zero_le hk0
      have HR : Hid (WoutR n L kk (L.eraseIdx kk) true) := ⟨by rw [woutV, woutOk, h1, ← hb0]; rfl, by rw [woutOk, h1, ← hb0]; rfl⟩
      obtain ⟨_, _, hL10, _⟩ := netOk_n h1
      clear h1 hb0
      have hWo := Lib.hid (fun b off w hbB hc => iWithout b off c L kk (by omega) hL10 hcap hcm w hbB hc)
      have hlpos : 0 < L.length := by omega
      obtain ⟨m, hm⟩ : ∃ m, m = L.length := ⟨_, rfl⟩
      have Hm := Lib.hid hm
      rw [← hm] at hk1 hL10 hcap HN hI hWo hlpos ⊢
      clear hm
      go_enter Try.func19, Try.ntmps19
      go_wp2_with fail
      refine HN.out.mono ?_
      rintro e w1 ⟨rfl, hb⟩
      go_wp2_with fail
      refine (hI _).mono ?_
      rintro e w2 ⟨rfl, rfl⟩
      obtain ⟨b, off, rfl, hbB, hc⟩ := (hL.below hb) (by rw [← Hm.out]; exact hlpos)
      have hw := Lib.hid (hWo.out b off w1 (Nat.lt_of_lt_of_le hbB hb.size) hc)
      clear hc
      go_wp2_with fail
      refine hw.out.mono ?_
      rintro e w3 ⟨A3, c3, rfl, _, _, hh, hb3⟩
      have Hh := Lib.hid (hh.more hb.size)
      replace hb3 := hb.trans (hb3.mono hb.size)
      clear hh
      go_wp2_with fail
      go_ret2
      exact ⟨A3, c3, L.eraseIdx kk, true, rfl, HR.out, Hh.out, hb3⟩
end Go.Proofs.Ytkcfclkpbmeaiaa
