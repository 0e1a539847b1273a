/- The laws' marking of lines that came back, and the reading of the marks. -/
import Derived.Test.YtfppgdgbljfpkaaWout2
import Derived.Test.YtfppgdgbljfpkaaMark
namespace Go.Proofs.Ytfppgdgbljfpkaa
set_option linter.unusedVariables false
set_option linter.unusedSimpArgs false
open Go.RowKit
theorem HoldL.cells {w : World} {B g : Nat} {L : List Ln} (h : HoldL w B (some ⟨g, 0, none⟩) L) {j : Nat} {u : Value} (hj : (lnCells L)[j]? = some u) : w.cell? ⟨g, j, none⟩ = some u := by
  rcases h with ⟨e, _⟩ | ⟨g', cur, e, _, hr, ht⟩
  · cases e
  · injection e with e; injection e with e; subst e
    rw [cell_of_row w g _ cur 51 (0, 0) hr, ← Array.getElem?_toList]
    rw [← ht, List.getElem?_take] at hj
    split at hj
    · exact hj
    · cases hj
theorem HoldL.frozen {w : World} {B g : Nat} {L : List Ln} (h : HoldL w B (some ⟨g, 0, none⟩) L) (j : Nat) : w.frozen? ⟨g, j, none⟩ = false := by
  rcases h with ⟨e, _⟩ | ⟨g', cur, e, _, hr, ht⟩
  · cases e
  · injection e with e; injection e with e; subst e
    exact frozen_of_row w g _ cur 51 hr
theorem HoldL.set3 {w : World} {B g : Nat} {L : List Ln} (h : HoldL w B (some ⟨g, 0, none⟩) L) (i : Nat) (l : Ln) (hi : i < L.length) :
    HoldL (((w.setCell ⟨g, i * 3, none⟩ (.int .i64 l.a)).setCell ⟨g, i * 3 + 1, none⟩ (.int .i64 l.b)).setCell ⟨g, i * 3 + 2, none⟩ (.int .i64 l.c)) B (some ⟨g, 0, none⟩) (L.set i l) := by
  rcases h with ⟨e, _⟩ | ⟨g', cur, e, hB, hr, ht⟩
  · cases e
  · injection e with e; injection e with e; subst e
    have h1 := heap_setCell_same w g (i * 3) cur 51 (.int .i64 l.a) hr
    have h2 := heap_setCell_same _ g (i * 3 + 1) _ 51 (.int .i64 l.b) h1
    have h3 := heap_setCell_same _ g (i * 3 + 2) _ 51 (.int .i64 l.c) h2
    refine .inr ⟨g, _, rfl, hB, h3, ?_⟩
    rw [Array.toList_setIfInBounds, Array.toList_setIfInBounds, Array.toList_setIfInBounds, List.length_set, List.take_set, List.take_set, List.take_set, ht, lnCells_set L i l hi]
theorem HoldL.kept {w w' : World} {B : Nat} {A : Option Addr} {L : List Ln} {row : Option Nat} (h : HoldL w B A L) (hg : w.grownBy w' row) (hne : ∀ k, row = some k → k < B) : HoldL w' B A L := by
  have h' := h
  rcases h with h1 | ⟨g, cur, rfl, hB, hr, ht⟩
  · exact .inl h1
  · exact .inr ⟨g, cur, rfl, hB, (hg.block g h'.lt (fun e => by have := hne g e.symm; omega)).trans hr, ht⟩
def marks (K : Int) (n : Nat) : List Ln := (List.range n).map fun (j : Nat) => ⟨K + 3 * j, K + 3 * j + 1, K + 3 * j + 2⟩
theorem marks_len (K : Int) (n : Nat) : (marks K n).length = n := by simp [marks]
theorem marks_get (K : Int) (n j : Nat) (h : j < n) : (marks K n)[j]? = some ⟨K + 3 * j, K + 3 * j + 1, K + 3 * j + 2⟩ := by simp [marks, h]
def MarkHPost (K : Int) (n B : Nat) (A : Option Addr) (w : World) (e : Ending) (w' : World) : Prop := e = .returned (.int .i64 (K + 3 * n)) ∧ HoldL w' B A (marks K n) ∧ Below B w w'
set_option maxRecDepth 100000 in
theorem markHL (A : Option Addr) (c B : Nat) (L : List Ln) (hn : L.length ≤ 1048576) (K : Int) (hK0 : 0 ≤ K) (hK : K ≤ 1000000000000) (w : World) (h : HoldL w B A L) :
    Calls Try.prog 22 #[.slice A L.length c, .int .i64 K] w (MarkHPost K L.length B A w) := by
  obtain ⟨n, hnl⟩ : ∃ n, n = L.length := ⟨_, rfl⟩
  have Hn := Lib.hid hnl
  rw [← hnl] at hn ⊢
  clear hnl
  go_enter Try.func22, Try.ntmps22
  go_wp2_with fail
  go_loopw [1, 5] (fun kv i wr => ∃ (k : Nat) (M : List Ln), k ≤ n ∧ i = .int .i64 k ∧ kv = .int .i64 (K + 3 * k) ∧ Hid (M.length = n ∧ ∀ j, j < k → M[j]? = (marks K n)[j]?) ∧ HoldL wr B A M ∧ Below B w wr) (fun _ i _ => n - (intOf i).toNat)
  case atStart => exact ⟨0, L, by omega, rfl, by simp, ⟨Hn.out.symm, fun j hj => by omega⟩, h, Below.refl _ _⟩
  case round =>
    obtain ⟨k, M, hk, rfl, rfl, hM, hr, hbel⟩ := hrel
    by_cases hlt : k < n
    · have hr' := hr
      rcases hr' with ⟨_, hnil⟩ | ⟨g, cur, rfl, hgB, _, _⟩
      · have := hM.out.1; rw [hnil] at this; simp at this; omega
      · obtain ⟨m, hm⟩ : ∃ m, M[k]? = some m := ⟨M[k]'(by rw [hM.out.1]; exact hlt), List.getElem?_eq_getElem _⟩
        obtain ⟨g1, g2, g3⟩ := lnCells_get M k m hm
        have e1 := hr.cells g1
        have e2 := hr.cells g2
        have e3 := hr.cells g3
        have f1 := hr.frozen (k * 3)
        have f2 := hr.frozen (k * 3 + 1)
        have f3 := hr.frozen (k * 3 + 2)
        have hset := hr.set3 k ⟨K + 3 * k, K + 3 * k + 1, K + 3 * k + 1 + 1⟩ (by rw [hM.out.1]; exact hlt)
        have HM' : Hid ((M.set k ⟨K + 3 * k, K + 3 * k + 1, K + 3 * k + 1 + 1⟩).length = n ∧ ∀ j, j < k + 1 → (M.set k ⟨K + 3 * k, K + 3 * k + 1, K + 3 * k + 1 + 1⟩)[j]? = (marks K n)[j]?) := ⟨by rw [List.length_set]; exact hM.out.1, fun j hj => by
          rcases (by omega : j < k ∨ j = k) with h | rfl
          · rw [List.getElem?_set_ne (by omega)]; exact hM.out.2 j h
          · rw [List.getElem?_set_self (by rw [hM.out.1]; exact hlt), marks_get K n j hlt, show K + 3 * (j : Int) + 1 + 1 = K + 3 * j + 2 by omega]⟩
        replace hset := Lib.hid hset
        clear g1 g2 g3 hm
        go_wp2_with fail
        go_roundw
        case rel => exact ⟨k + 1, M.set k ⟨K + 3 * k, K + 3 * k + 1, K + 3 * k + 1 + 1⟩, by omega, by go_num, by go_num, HM', hset.out, ((hbel.setCell hgB _).setCell hgB _).setCell hgB _⟩
        case measure => simp [intOf]; omega
    · obtain rfl : k = n := by omega
      have hML : M = marks K k := by
        apply List.ext_getElem?
        intro j
        rcases Nat.lt_or_ge j k with h | h
        · exact hM.out.2 j h
        · rw [List.getElem?_eq_none (by rw [hM.out.1]; exact h), List.getElem?_eq_none (by rw [marks_len]; exact h)]
      subst hML
      go_wp2_with fail
      go_ret
      exact ⟨rfl, hr, hbel⟩
set_option maxRecDepth 100000 in
theorem heldHL (A : Option Addr) (c hi : Nat) (n : Nat) (hn : n ≤ 1048576) (K : Int) (hK0 : 0 ≤ K) (hK : K ≤ 1000000000000) (w : World) (h : Lns w hi A (marks K n)) :
    Calls Try.prog 23 #[.slice A n c, .int .i64 K] w fun e w' => e = .returned (.int .i64 (K + 3 * n)) ∧ w = w' := by
  have Hy := Lib.hid (fun j (hj : j < n) => marks_get K n j hj)
  have Hml := Lib.hid (marks_len K n)
  go_enter Try.func23, Try.ntmps23
  go_wp2_with fail
  go_loop [1, 5] (fun kv i => ∃ k : Nat, k ≤ n ∧ i = .int .i64 k ∧ kv = .int .i64 (K + 3 * k)) (fun _ i => n - (intOf i).toNat)
  case atStart => exact ⟨0, by omega, rfl, by simp⟩
  case round =>
    obtain ⟨k, hk, rfl, rfl⟩ := hrel
    by_cases hlt : k < n
    · obtain ⟨b, off, rfl, hb, hc⟩ := h (by rw [Hml.out]; omega)
      obtain ⟨d1, d2, d3⟩ := hc k _ (Hy.out k hlt)
      simp only at d1 d2 d3
      have d3' : w.cell? ⟨b, off + k * 3 + 2, none⟩ = some (.int .i64 (K + 3 * k + 1 + 1)) := by rw [d3, show K + 3 * (k : Int) + 2 = K + 3 * k + 1 + 1 by omega]
      clear hc d3
      go_wp2_with fail
      go_round
      case rel => exact ⟨k + 1, by omega, by go_num, by go_num⟩
      case measure => simp [intOf]; omega
    · obtain rfl : k = n := by omega
      go_wp2_with fail
      go_ret
      exact ⟨rfl, rfl⟩
def HlPost (R : List Ln → Bool → Prop) (w : World) (e : Ending) (w' : World) : Prop := ∃ A c M ok, e = .returned (.tuple #[.slice A M.length c, .bool ok]) ∧ R M ok ∧ HoldL w' w.heap.size A M ∧ Below w.heap.size w w'
def LpPost (R : List Ln → Bool → Prop) (w : World) (e : Ending) (w' : World) : Prop := ∃ A c M ok, e = .returned (.tuple #[.slice A M.length c, .bool ok]) ∧ R M ok ∧ Lns w' w'.heap.size A M ∧ Below w.heap.size w w'
theorem sNetWithout' (n : Int) (A : Option Addr) (c : Nat) (L : List Ln) (k : Int) (hL1 : L.length ≤ 1048576) (w : World) (hL : Lns w w.heap.size A L) (hcap : L.length ≤ c := by exact Nat.le_refl _) :
    Calls Try.prog 20 #[.int .i64 n, .slice A L.length c, .int .i64 k] w (LpPost (WoutR n L k) w) :=
  (sNetWithout n A c L k hL1 hcap w hL).mono fun _ _ ⟨A, c, M, ok, h1, h2, h3, h4⟩ => ⟨A, c, M, ok, h1, h2, h3.lns, h4⟩
theorem WoutR_fn {n : Int} {L : List Ln} {k : Int} (M : List Ln) (ok : Bool) (M' : List Ln) (ok' : Bool) (h : WoutR n L k M ok) (h' : WoutR n L k M' ok') : M = M' ∧ ok = ok' := ⟨h.1.trans h'.1.symm, h.2.trans h'.2.symm⟩
theorem WoutR_len {n : Int} {L : List Ln} {k : Int} {M : List Ln} {ok : Bool} (h : WoutR n L k M ok) : M.length ≤ 1048576 := by
  obtain ⟨rfl, _⟩ := h
  unfold woutV
  split
  · rename_i h1
    unfold woutOk at h1
    rw [Bool.and_eq_true] at h1
    obtain ⟨_, _, h2, _⟩ := netOk_n h1.1
    have := List.length_eraseIdx_le L k.toNat
    omega
  · simp
set_option maxRecDepth 100000 in
theorem iNetWithout (n : Int) (A : Option Addr) (c : Nat) (L : List Ln) (k : Int) (hL1 : L.length ≤ 1048576) (w : World) (hL : Lns w w.heap.size A L) (hcap : L.length ≤ c := by exact Nat.le_refl _) (hcm : c ≤ maxLen := by unfold maxLen; omega) :
    Calls Try.prog 21 #[.int .i64 n, .slice A L.length c, .int .i64 k] w (HlPost (WoutR n L k) w) := by
  have HN := implNet n A c L hL1 w hL
  cases h1 : netOk n L with
  | false =>
    rw [h1] at HN
    replace HN := Lib.hid HN
    have HR : Hid (WoutR n L k [] false) := ⟨by rw [woutV, woutOk, h1]; rfl, by rw [woutOk, h1]; rfl⟩
    clear h1
    go_enter Try.func21, Try.ntmps21
    go_wp2_with fail
    refine HN.out.mono ?_
    rintro e w1 ⟨rfl, hb⟩
    go_wp2_with fail
    go_ret2
    exact ⟨none, 0, [], false, rfl, HR.out, .inl ⟨rfl, rfl⟩, hb⟩
  | true =>
    rw [h1] at HN
    replace HN := Lib.hid HN
    obtain ⟨b, hb0⟩ : ∃ b, b = inB k 0 (L.length - 1) := ⟨_, rfl⟩
    have hI := fun w => within_b k 0 (L.length - 1) b hb0.symm w
    cases b with
    | false =>
      have HR : Hid (WoutR n L k [] false) := ⟨by rw [woutV, woutOk, h1, ← hb0]; rfl, by rw [woutOk, h1, ← hb0]; rfl⟩
      clear h1 hb0
      go_enter Try.func21, Try.ntmps21
      go_wp2_with fail
      refine HN.out.mono ?_
      rintro e w1 ⟨rfl, hb⟩
      go_wp2_with fail
      refine (hI _).mono ?_
      rintro e w2 ⟨rfl, rfl⟩
      go_wp2_with fail
      go_ret2
      exact ⟨none, 0, [], false, rfl, HR.out, .inl ⟨rfl, rfl⟩, hb⟩
    | true =>
      obtain ⟨hk0, hk1⟩ := inB_iff.1 hb0.symm
      obtain ⟨kk, rfl⟩ := Int.eq_ofNat_of_zero_le hk0
      have HR : Hid (WoutR n L kk (L.eraseIdx kk) true) := ⟨by rw [woutV, woutOk, h1, ← hb0]; rfl, by rw [woutOk, h1, ← hb0]; rfl⟩
      obtain ⟨_, _, hL10, _⟩ := netOk_n h1
      clear h1 hb0
      have hWo := Lib.hid (fun b off w hbB hc => iWithout b off c L kk (by omega) hL10 hcap hcm w hbB hc)
      have hlpos : 0 < L.length := by omega
      obtain ⟨m, hm⟩ : ∃ m, m = L.length := ⟨_, rfl⟩
      have Hm := Lib.hid hm
      rw [← hm] at hk1 hL10 hcap HN hI hWo hlpos ⊢
      clear hm
      go_enter Try.func21, Try.ntmps21
      go_wp2_with fail
      refine HN.out.mono ?_
      rintro e w1 ⟨rfl, hb⟩
      go_wp2_with fail
      refine (hI _).mono ?_
      rintro e w2 ⟨rfl, rfl⟩
      obtain ⟨b, off, rfl, hbB, hc⟩ := (hL.below hb) (by rw [← Hm.out]; exact hlpos)
      have hw := Lib.hid (hWo.out b off w1 (Nat.lt_of_lt_of_le hbB hb.size) hc)
      clear hc
      go_wp2_with fail
      refine hw.out.mono ?_
      rintro e w3 ⟨A3, c3, rfl, _, _, hh, hb3⟩
      have Hh := Lib.hid (hh.more hb.size)
      replace hb3 := hb.trans (hb3.mono hb.size)
      clear hh
      go_wp2_with fail
      go_ret2
      exact ⟨A3, c3, L.eraseIdx kk, true, rfl, HR.out, Hh.out, hb3⟩
end Go.Proofs.Ytfppgdgbljfpkaa
