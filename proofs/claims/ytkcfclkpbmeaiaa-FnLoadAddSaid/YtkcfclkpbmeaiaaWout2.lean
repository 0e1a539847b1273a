/- NetWithout: the program walked. -/
import Derived.Test.YtkcfclkpbmeaiaaWout
import Derived.StillTailTactics
namespace Go.Proofs.Ytkcfclkpbmeaiaa
set_option linter.unusedVariables false
set_option linter.unusedSimpArgs false
open Go.RowKit
/-- A slice of lines in a block from B on, its capacity whatever it is. -/
def HoldL (w : World) (B : Nat) (A : Option Addr) (L : List Ln) : Prop := (A = none ∧ L = []) ∨ ∃ g cur, A = some ⟨g, 0, none⟩ ∧ B ≤ g ∧ w.heap[g]? = some (.cells cur 36 (0, 0)) ∧ cur.toList.take (L.length * 3) = lnCells L
section
variable {w w' : World} {B n c : Nat} {A : Option Addr} {L : List Ln}
theorem OwnL.hold (h : OwnL w B (.slice A n c) L) : HoldL w B A L := by
  unfold OwnL at h
  rcases h.2 with ⟨e, h0⟩ | ⟨g, cap, cur, e, h1, h2, _, _, _, h3⟩
  · injection e with e
    exact .inl ⟨e, List.length_eq_zero_iff.1 h0⟩
  · injection e with e
    exact .inr ⟨g, cur, e, h1, h2, h3⟩
theorem HoldL.lt {g : Nat} (h : HoldL w B (some ⟨g, 0, none⟩) L) : g < w.heap.size := by
  rcases h with ⟨e, _⟩ | ⟨g', cur, e, _, hr, _⟩
  · cases e
  · injection e with e; injection e with e; subst e
    rcases Nat.lt_or_ge g w.heap.size with h1 | h1
    · exact h1
    · rw [Array.getElem?_eq_none h1] at hr; cases hr
theorem HoldL.lns (h : HoldL w B A L) : Lns w w.heap.size A L := fun h0 => by
  have h' := h
  rcases h with ⟨_, rfl⟩ | ⟨g, cur, rfl, _, hr, ht⟩
  · simp at h0
  · refine ⟨g, 0, rfl, h'.lt, fun i l hl => ?_⟩
    have hi : i < L.length := (List.getElem?_eq_some_iff.1 hl).1
    obtain ⟨g1, g2, g3⟩ := lnCells_get L i l hl
    have hat : ∀ j u, (lnCells L)[j]? = some u → w.cell? ⟨g, j, none⟩ = some u := fun j u hj => by
      rw [cell_of_row w g _ cur 36 (0, 0) hr, ← Array.getElem?_toList]
      rw [← ht, List.getElem?_take] at hj
      split at hj
      · exact hj
      · cases hj
    rw [Nat.zero_add]
    exact ⟨hat _ _ g1, hat _ _ g2, hat _ _ g3⟩
theorem HoldL.below (h : HoldL w B A L) (hb : Below w.heap.size w w') : HoldL w' B A L := by
  have h' := h
  rcases h with h1 | ⟨g, cur, rfl, hg, hr, ht⟩
  · exact .inl h1
  · exact .inr ⟨g, cur, rfl, hg, (hb.block g h'.lt).trans hr, ht⟩
theorem HoldL.more (h : HoldL w B A L) {B' : Nat} (hB : B' ≤ B) : HoldL w B' A L := by
  rcases h with h1 | ⟨g, cur, rfl, hg, hr, ht⟩
  · exact .inl h1
  · exact .inr ⟨g, cur, rfl, by omega, hr, ht⟩
end
theorem iClip (A : Option Addr) (n c : Nat) (hn : n ≤ c) (hc : c ≤ maxLen) (hA : A = none → n = 0 ∧ c = 0) (w : World) :
    Calls Try.prog 73 #[.slice A n c] w fun e w' => e = .returned (.slice A n n) ∧ w = w' := by
  unfold maxLen at hc
  cases A with
  | none =>
    obtain ⟨rfl, rfl⟩ := hA rfl
    go_enter Try.func73, Try.ntmps73
    go_wp2_with fail
    go_ret
    exact ⟨rfl, rfl⟩
  | some a =>
    go_enter Try.func73, Try.ntmps73
    go_wp2_with fail
    go_ret
    exact ⟨rfl, rfl⟩
set_option maxRecDepth 100000 in
theorem iGrow (n : Nat) (hn : n ≤ 1000) (w : World) :
    Calls Try.prog 80 #[.slice none 0 0, .int .i64 n] w fun e w' => ∃ A c, e = .returned (.slice A 0 c) ∧ OwnL w' w.heap.size (.slice A 0 c) [] ∧ Below w.heap.size w w' := by
  by_cases h0 : n = 0
  · subst h0
    go_enter Try.func80, Try.ntmps80
    go_wp2_with fail
    go_ret
    exact ⟨none, 0, rfl, OwnL.nil _ _, Below.refl _ _⟩
  · obtain ⟨i0, hi, hz0, hz1, hz2⟩ := info_parts lineInfo
    have h := fun ty => Lib.run_append_nil_zeros (P := Try.prog) w 23 3 ty 36 i0 _ .i64 .i64 Try.underlying23 Try.underlying3 hi hz0 n (by omega) (by omega) (by omega) (by rw [hz2]; omega)
    have hpos : ¬ ((n : Int) ≤ 0) := by omega
    go_enter Try.func80, Try.ntmps80
    go_wp2_with (at_builtin; refine Lib.wpList_append_run _ rfl _ _ _ _ rfl _ _ rfl rfl _ _ (h _) ?_)
    go_ret
    refine ⟨_, _, rfl, ?_, ((Below.refl _ _).alloc (Nat.le_refl _) _).drew⟩
    refine ⟨rfl, .inr ⟨w.heap.size, grownCap w n 0 36, _, rfl, Nat.le_refl _, heap_alloc_new w _, Nat.zero_le _, grownCap_le_maxLen _ _ _ _ (by unfold maxLen; omega), ?_, by simp [lnCells]⟩⟩
    have hge := grownCap_ge w n 0 36
    rw [Array.size_append, size_zeroCells, size_zeroCells]
    simp
    omega
def totL (k m1 m2 : Nat) : Nat := if k = 0 then 0 else if k = 1 then m1 else m1 + m2
def partL (k : Nat) (M1 M2 : List Ln) : List Ln := if k = 0 then [] else if k = 1 then M1 else M1 ++ M2
set_option maxRecDepth 100000 in
theorem iConcat (w : World) (q b o1 o2 m1 m2 c1 c2 : Nat) (M1 M2 : List Ln) (hq : Row w q 23 [.slice (some ⟨b, o1, none⟩) m1 c1, .slice (some ⟨b, o2, none⟩) m2 c2]) (hM1 : M1.length = m1) (hM2 : M2.length = m2) (hm : m1 + m2 ≤ 1000)
    (hc1 : ∀ j u, (lnCells M1)[j]? = some u → w.cell? (Addr.add ⟨b, o1, none⟩ j) = some u) (hc2 : ∀ j u, (lnCells M2)[j]? = some u → w.cell? (Addr.add ⟨b, o2, none⟩ j) = some u) (hb : b < w.heap.size) :
    Calls Try.prog 74 #[.slice (some ⟨q, 0, none⟩) 2 2] w fun e w' => ∃ A c, e = .returned (.slice A (m1 + m2) c) ∧ OwnL w' w.heap.size (.slice A (m1 + m2) c) (M1 ++ M2) ∧ Below w.heap.size w w' := by
  have HC1 := Lib.hid hc1
  have HC2 := Lib.hid hc2
  have HM1 := Lib.hid hM1
  have HM2 := Lib.hid hM2
  have qc0 := hq.cellI (i := 0) rfl
  have qc1 := hq.cellI (i := 1) rfl
  have hql := hq.lt
  have hg := fun W => iGrow (m1 + m2) hm W
  simp only [Int.natCast_add] at hg
  replace hg := Lib.hid hg
  clear hc1 hc2 hM1 hM2
  go_enter Try.func74, Try.ntmps74
  go_wp2_with fail
  go_loop [3, 5, 11] (fun t _ i => ∃ k : Nat, k ≤ 2 ∧ i = .int .i64 k ∧ t = .int .i64 (totL k m1 m2 : Nat)) (fun _ _ i => 2 - (intOf i).toNat)
  case atStart => exact ⟨0, by omega, rfl, rfl⟩
  case round =>
    obtain ⟨k, hk, rfl, rfl⟩ := hrel
    rcases (by omega : k = 0 ∨ k = 1 ∨ k = 2) with rfl | rfl | rfl
    · simp only [totL]
      go_wp2_with fail
      go_round
      case rel => exact ⟨1, by omega, rfl, by simp [totL]⟩
      case measure => simp [intOf]
    · simp only [totL]
      go_wp2_with fail
      go_round
      case rel => exact ⟨2, by omega, rfl, by simp [totL]⟩
      case measure => simp [intOf]
    · simp only [totL]
      go_wp2_with fail
      refine (hg.out _).mono ?_
      rintro e w1 ⟨A1, ca, rfl, hown1, hb1⟩
      have HC1' : Hid (∀ W : World, Below w.heap.size w W → ∀ j u, (lnCells M1)[j]? = some u → W.cell? (Addr.add ⟨b, o1, none⟩ j) = some u) := fun W hW j u hj => by
        have := HC1.out j u hj
        rw [Addr.add_lit] at this ⊢
        exact (hW.cell (p := ⟨b, _, none⟩) hb).trans this
      have HC2' : Hid (∀ W : World, Below w.heap.size w W → ∀ j u, (lnCells M2)[j]? = some u → W.cell? (Addr.add ⟨b, o2, none⟩ j) = some u) := fun W hW j u hj => by
        have := HC2.out j u hj
        rw [Addr.add_lit] at this ⊢
        exact (hW.cell (p := ⟨b, _, none⟩) hb).trans this
      clear qc0 qc1
      go_wp2_with fail
      go_loopw [6, 8, 27] (fun v _ i wr => ∃ (k : Nat) (A' : Option Addr) (c' : Nat), k ≤ 2 ∧ i = .int .i64 k ∧ v = .slice A' (totL k m1 m2) c' ∧ OwnL wr w.heap.size (.slice A' (totL k m1 m2) c') (partL k M1 M2) ∧ Below w.heap.size w wr) (fun _ _ i _ => 2 - (intOf i).toNat)
      case atStart => exact ⟨0, A1, ca, by omega, rfl, rfl, hown1, hb1⟩
      case round =>
        clear hown1 hb1
        obtain ⟨k, A', c', hk, rfl, rfl, hown, hbel⟩ := hrel
        have hqr := hq.below hbel hql
        have qc0 := hqr.cellI (i := 0) rfl
        have qc1 := hqr.cellI (i := 1) rfl
        have hqw := hqr.lt
        rcases (by omega : k = 0 ∨ k = 1 ∨ k = 2) with rfl | rfl | rfl
        · replace hown : OwnL wr w.heap.size (.slice A' 0 c') [] := hown
          simp only [totL]
          go_wp2_with (at_builtin; refine appL _ rfl _ _ rfl w.heap.size _ [] M1 rfl hown m1 c1 HM1.out (by rw [HM1.out]; simp; omega) ⟨b, o1, none⟩ rfl (by exact HC1'.out _ hbel) hbel.size ?_; intro A3 c3 w4 hown3 hgr3)
          have hb4 := OwnL.grownBelow hown hgr3 hbel (Nat.le_refl _) hbel.size
          rw [List.nil_append, HM1.out] at hown3
          clear hgr3 hown hbel qc0 qc1
          go_wp2_with fail
          go_roundw
          case rel => exact ⟨1, A3, c3, by omega, rfl, by simp [totL, HM1.out], hown3, hb4⟩
          case measure => simp [intOf]
        · replace hown : OwnL wr w.heap.size (.slice A' m1 c') M1 := hown
          simp only [totL]
          go_wp2_with (at_builtin; refine appL _ rfl _ _ rfl w.heap.size _ M1 M2 rfl hown m2 c2 HM2.out (by rw [HM1.out, HM2.out]; omega) ⟨b, o2, none⟩ rfl (by exact HC2'.out _ hbel) hbel.size ?_; intro A3 c3 w4 hown3 hgr3)
          have hb4 := OwnL.grownBelow hown hgr3 hbel (Nat.le_refl _) hbel.size
          rw [List.length_append, HM1.out, HM2.out] at hown3
          clear hgr3 hown hbel qc0 qc1
          go_wp2_with fail
          go_roundw
          case rel => exact ⟨2, A3, c3, by omega, rfl, by simp [totL, HM1.out, HM2.out], hown3, hb4⟩
          case measure => simp [intOf]
        · replace hown : OwnL wr w.heap.size (.slice A' (m1 + m2) c') (M1 ++ M2) := hown
          simp only [totL]
          go_wp2_with fail
          go_ret
          exact ⟨A', c', rfl, hown, hbel⟩
set_option maxRecDepth 100000 in
theorem iWithout (b off c : Nat) (L : List Ln) (kk : Nat) (hk : kk < L.length) (hL10 : L.length ≤ 10) (hcap : L.length ≤ c) (hcm : c ≤ maxLen) (w : World) (hbB : b < w.heap.size) (hc : ∀ i l, L[i]? = some l →
    w.cell? ⟨b, off + i * 3, none⟩ = some (.int .i64 l.a) ∧ w.cell? ⟨b, off + i * 3 + 1, none⟩ = some (.int .i64 l.b) ∧ w.cell? ⟨b, off + i * 3 + 2, none⟩ = some (.int .i64 l.c)) :
    Calls Try.prog 61 #[.slice (some ⟨b, off, none⟩) L.length c, .int .i64 kk] w fun e w' => ∃ A c', e = .returned (.slice A (L.eraseIdx kk).length c') ∧ (L.eraseIdx kk).length ≤ c' ∧ c' ≤ 10 ∧ HoldL w' w.heap.size A (L.eraseIdx kk) ∧ Below w.heap.size w w' := by
  obtain ⟨m, hm⟩ : ∃ m, m = L.length := ⟨_, rfl⟩
  have Hm := Lib.hid hm
  have Hout : Hid (L.take kk ++ L.drop (kk + 1) = L.eraseIdx kk) := (List.eraseIdx_eq_take_drop_succ L kk).symm
  have Hlen : Hid ((L.eraseIdx kk).length = kk + (m - (kk + 1))) := by show _ = _; rw [← Hout.out, List.length_append, List.length_take, List.length_drop, ← hm]; omega
  rw [Hlen.out]
  rw [← hm] at hk hL10 hcap ⊢
  clear hm
  have Hl1 : Hid ((L.take kk).length = kk) := by show _ = _; rw [List.length_take, ← Hm.out]; omega
  have hkc : kk ≤ c := by omega
  have hkm : kk + 1 ≤ m := by omega
  have hk9 : kk ≤ 9 := by omega
  have hw1 : IntKind.i64.wrap ((kk : Int) + 1) = (kk : Int) + 1 := IntWalk.i64_in _ (by omega)
  have ht1 : ((kk : Int) + 1).toNat = kk + 1 := by omega
  have hz0 : (0 : Int) ≤ (kk : Int) + 1 := by omega
  have hz1 : (kk : Int) + 1 ≤ (m : Int) := by omega
  have Hl2 : Hid ((L.drop (kk + 1)).length = m - (kk + 1)) := by show _ = _; rw [List.length_drop, ← Hm.out]
  have hc1 : ∀ W : World, Below w.heap.size w W → ∀ j u, (lnCells (L.take kk))[j]? = some u → W.cell? (Addr.add ⟨b, off, none⟩ j) = some u := fun W hW j u hj => by
    have := lns_at hc j u (by rw [lnCells_take] at hj; rw [List.getElem?_take] at hj; split at hj; exact hj; cases hj)
    rw [Addr.add_lit]
    exact (hW.cell (p := ⟨b, off + j, none⟩) hbB).trans this
  have HC1 := Lib.hid hc1
  obtain ⟨o2, ho2, hc2⟩ : ∃ o2, (if c = kk + 1 then some (⟨b, off, none⟩ : Addr) else some ⟨b, off + (kk + 1) * 3, none⟩) = some ⟨b, o2, none⟩ ∧ ∀ W : World, Below w.heap.size w W → ∀ j u, (lnCells (L.drop (kk + 1)))[j]? = some u → W.cell? (Addr.add ⟨b, o2, none⟩ j) = some u := by
    by_cases hcc : c = kk + 1
    · refine ⟨off, if_pos hcc, fun W hW j u hj => ?_⟩
      have : j < (lnCells (L.drop (kk + 1))).length := (List.getElem?_eq_some_iff.1 hj).1
      rw [lnCells_length, Hl2.out] at this
      omega
    · refine ⟨off + (kk + 1) * 3, if_neg hcc, fun W hW j u hj => ?_⟩
      have := lns_at hc ((kk + 1) * 3 + j) u (by rw [lnCells_drop, List.getElem?_drop] at hj; exact hj)
      rw [Addr.add_lit, Nat.add_assoc]
      exact (hW.cell (p := ⟨b, _, none⟩) hbB).trans this
  have HC2 := Lib.hid hc2
  clear hc2 hc1 hc
  go_enter Try.func61, Try.ntmps61
  go_wp2_with fail
  go_still_tail 7, (by kernel_rfl)
  change wpList _ _ _ _ _ w.drew
  have hbd : Below w.heap.size w w.drew := (Below.refl _ _).drew
  generalize w.drew = w2 at hbd ⊢
  go_wp2_with fail
  have hb3 : Below w.heap.size w (w2.alloc (Obj.cells #[.slice (some ⟨b, off, none⟩) kk c, .slice (some ⟨b, o2, none⟩) (m - (kk + 1)) (c - (kk + 1))] 23)) := hbd.alloc hbd.size _
  refine (iConcat _ w2.heap.size b off o2 kk (m - (kk + 1)) c (c - (kk + 1)) (L.take kk) (L.drop (kk + 1)) (Row.newS _ _ _ rfl rfl) Hl1.out Hl2.out (by omega) (HC1.out _ hb3) (HC2.out _ hb3) (Nat.lt_of_lt_of_le hbB hb3.size)).mono ?_
  rintro e w4 ⟨A4, c4, rfl, hown4, hb4⟩
  rw [Hout.out] at hown4
  replace hb4 := hb3.trans (hb4.mono hb3.size)
  replace hown4 := hown4.more hb3.size
  clear hb3
  have hf := hown4.form
  obtain ⟨A5, c5, he, hlc, hcm5⟩ := hf
  injection he with he1 he2 he3
  subst he3
  rw [Hlen.out] at hlc
  have hA : A4 = none → kk + (m - (kk + 1)) = 0 ∧ c4 = 0 := fun h => by
    subst h
    unfold OwnL at hown4
    rcases hown4.2 with ⟨e, h0⟩ | ⟨g, cap, cur, e, _⟩
    · injection e with _ e1 e2; exact ⟨e1, e2⟩
    · cases e
  have hcl := Lib.hid (iClip A4 (kk + (m - (kk + 1))) c4 hlc hcm5 hA)
  have Hown4 := Lib.hid hown4
  clear hA he1 he2 hlc hown4
  go_wp2_with fail
  refine (hcl.out _).mono ?_
  rintro e w5 ⟨rfl, rfl⟩
  go_wp2_with fail
  go_ret
  exact ⟨A4, _, rfl, Nat.le_refl _, by omega, Hown4.out.hold, hb4⟩
end Go.Proofs.Ytkcfclkpbmeaiaa
