/- NetWithout: the reference walked. -/
import Derived.Test.YtkcfclkpbmeaiaaOwnL
import Derived.Test.YtkcfclkpbmeaiaaTraf
namespace Go.Proofs.Ytkcfclkpbmeaiaa
set_option linter.unusedVariables false
set_option linter.unusedSimpArgs false
open Go.RowKit
def LlPost (R : List Ln → Bool → Prop) (w : World) (e : Ending) (w' : World) : Prop := ∃ A c M ok, e = .returned (.tuple #[.slice A M.length c, .bool ok]) ∧ R M ok ∧ OwnL w' w.heap.size (.slice A M.length c) M ∧ Below w.heap.size w w'
theorem LlPost.mk {R : List Ln → Bool → Prop} {w w' : World} {v : Value} {M : List Ln} {ok : Bool} (hR : R M ok) (ho : OwnL w' w.heap.size v M) (hb : Below w.heap.size w w') : LlPost R w (.returned (.tuple #[v, .bool ok])) w' := by
  obtain ⟨A, c, rfl, _⟩ := ho.form
  exact ⟨A, c, M, ok, rfl, hR, ho, hb⟩
def woutOk (n : Int) (L : List Ln) (k : Int) : Bool := netOk n L && inB k 0 (L.length - 1)
def woutV (n : Int) (L : List Ln) (k : Int) : List Ln := if woutOk n L k = true then L.eraseIdx k.toNat else []
def WoutR (n : Int) (L : List Ln) (k : Int) (M : List Ln) (ok : Bool) : Prop := M = woutV n L k ∧ ok = woutOk n L k
set_option maxRecDepth 100000 in
theorem sNetWithout (n : Int) (A : Option Addr) (c : Nat) (L : List Ln) (k : Int) (hL1 : L.length ≤ 1048576) (hcap : L.length ≤ c) (w : World) (hL : Lns w w.heap.size A L) :
    Calls Try.prog 20 #[.int .i64 n, .slice A L.length c, .int .i64 k] w (LlPost (WoutR n L k) w) := by
  have HN := specNet n A c L hL1 w hL
  cases h1 : netOk n L with
  | false =>
    rw [h1] at HN
    replace HN := Lib.hid HN
    have HR : Hid (WoutR n L k [] false) := ⟨by rw [woutV, woutOk, h1]; rfl, by rw [woutOk, h1]; rfl⟩
    clear h1
    go_enter Try.func20, Try.ntmps20
    go_wp2_with fail
    refine HN.out.mono ?_
    rintro e w1 ⟨rfl, hb⟩
    go_wp2_with fail
    go_ret2
    exact LlPost.mk HR.out (OwnL.lit0 _ _ hb.size) (hb.alloc hb.size _)
  | true =>
    rw [h1] at HN
    replace HN := Lib.hid HN
    obtain ⟨b, hb0⟩ : ∃ b, b = inB k 0 (L.length - 1) := ⟨_, rfl⟩
    have hI := fun w => l6In_b k 0 (L.length - 1) b hb0.symm w
    cases b with
    | false =>
      have HR : Hid (WoutR n L k [] false) := ⟨by rw [woutV, woutOk, h1, ← hb0]; rfl, by rw [woutOk, h1, ← hb0]; rfl⟩
      clear h1 hb0
      go_enter Try.func20, Try.ntmps20
      go_wp2_with fail
      refine HN.out.mono ?_
      rintro e w1 ⟨rfl, hb⟩
      go_wp2_with fail
      refine (hI _).mono ?_
      rintro e w2 ⟨rfl, rfl⟩
      go_wp2_with fail
      go_ret2
      exact LlPost.mk HR.out (OwnL.lit0 _ _ hb.size) (hb.alloc hb.size _)
    | true =>
      obtain ⟨hk0, hk1⟩ := inB_iff.1 hb0.symm
      obtain ⟨kk, rfl⟩ := Int.eq_ofNat_of_zero_le hk0
      have HR : Hid (WoutR n L kk (L.eraseIdx kk) true) := ⟨by rw [woutV, woutOk, h1, ← hb0]; rfl, by rw [woutOk, h1, ← hb0]; rfl⟩
      obtain ⟨_, _, hL10, _⟩ := netOk_n h1
      clear h1 hb0
      obtain ⟨b, off, rfl, hbB, hc⟩ := hL (by omega)
      obtain ⟨m, hm⟩ : ∃ m, m = L.length := ⟨_, rfl⟩
      have Hm := Lib.hid hm
      rw [← hm] at hk1 hL10 hcap HN hI ⊢
      clear hm
      go_enter Try.func20, Try.ntmps20
      go_wp2_with fail
      refine HN.out.mono ?_
      rintro e w1 ⟨rfl, hb⟩
      go_wp2_with fail
      refine (hI _).mono ?_
      rintro e w2 ⟨rfl, rfl⟩
      go_wp2_with fail
      have hb1 : Below w.heap.size w (w1.alloc (Obj.cells #[] 36)) := hb.alloc hb.size _
      have ho1 := OwnL.lit0 w1 w.heap.size hb.size
      have hc1 : ∀ W : World, Below w.heap.size w W → ∀ j u, (lnCells (L.take kk))[j]? = some u → W.cell? (Addr.add ⟨b, off, none⟩ j) = some u := fun W hW j u hj => by
        have := lns_at hc j u (by rw [lnCells_take] at hj; rw [List.getElem?_take] at hj; split at hj; exact hj; cases hj)
        rw [Addr.add_lit]
        exact (hW.cell (p := ⟨b, off + j, none⟩) hbB).trans this
      have HC1 := Lib.hid hc1
      have Hl1 : Hid ((L.take kk).length = kk) := by show _ = _; rw [List.length_take, ← Hm.out]; omega
      clear hc1
      have hkc : kk ≤ c := by omega
      have hkm : kk + 1 ≤ m := by omega
      have hk9 : kk ≤ 9 := by omega
      have hw1 : IntKind.i64.wrap ((kk : Int) + 1) = (kk : Int) + 1 := IntWalk.i64_in _ (by omega)
      have ht1 : ((kk : Int) + 1).toNat = kk + 1 := by omega
      have hz0 : (0 : Int) ≤ (kk : Int) + 1 := by omega
      have hz1 : (kk : Int) + 1 ≤ (m : Int) := by omega
      have Hl2 : Hid ((L.drop (kk + 1)).length = m - (kk + 1)) := by show _ = _; rw [List.length_drop, ← Hm.out]
      obtain ⟨o2, ho2, hc2⟩ : ∃ o2, (if c = kk + 1 then some (⟨b, off, none⟩ : Addr) else some ⟨b, off + (kk + 1) * 3, none⟩) = some ⟨b, o2, none⟩ ∧ ∀ W : World, Below w.heap.size w W → ∀ j u, (lnCells (L.drop (kk + 1)))[j]? = some u → W.cell? (Addr.add ⟨b, o2, none⟩ j) = some u := by
        by_cases hcc : c = kk + 1
        · refine ⟨off, if_pos hcc, fun W hW j u hj => ?_⟩
          have : j < (lnCells (L.drop (kk + 1))).length := (List.getElem?_eq_some_iff.1 hj).1
          rw [lnCells_length, Hl2.out] at this
          omega
        · refine ⟨off + (kk + 1) * 3, if_neg hcc, fun W hW j u hj => ?_⟩
          have := lns_at hc ((kk + 1) * 3 + j) u (by rw [lnCells_drop, List.getElem?_drop] at hj; exact hj)
          rw [Addr.add_lit, Nat.add_assoc]
          exact (hW.cell (p := ⟨b, _, none⟩) hbB).trans this
      have HC2 := Lib.hid hc2
      have Hout : Hid (L.take kk ++ L.drop (kk + 1) = L.eraseIdx kk) := (List.eraseIdx_eq_take_drop_succ L kk).symm
      have HLen1 : Hid (([] ++ L.take kk).length = kk) := by show _ = _; rw [List.nil_append, Hl1.out]
      have HLen2 : Hid (([] ++ L.take kk ++ L.drop (kk + 1)).length = m - 1) := by show _ = _; rw [List.length_append, HLen1.out, Hl2.out]; omega
      clear hc2 hc
      go_region_law ((first | (refine step_appL rfl (.tmp 21) (.tmp 24) rfl w.heap.size (.slice (some ⟨w1.heap.size, 0, none⟩) 0 0) [] (L.take kk) (by simp [Act.eval, Act.put]) (by exact ho1) kk c Hl1.out (by rw [Hl1.out]; simp; omega) ⟨b, off, none⟩ (by simp [Act.eval, Act.put]) (by exact HC1.out _ hb1.drew) (by simp; exact Nat.le_succ_of_le hb.size) ?_; intro A2 c2 w3 hown2 hgr2; rw [HLen1.out] at hown2 ⊢; have hb2 : Below w.heap.size w w3 := OwnL.grownBelow ho1.drew hgr2 hb1.drew (Nat.le_refl _) hb1.size; clear hgr2) | (refine step_appL rfl (.tmp 25) (.tmp 29) rfl w.heap.size (.slice A2 kk c2) ([] ++ L.take kk) (L.drop (kk + 1)) (by simp [Act.eval, Act.put]) (by exact hown2) (m - (kk + 1)) (c - (kk + 1)) Hl2.out (by rw [Hl2.out, List.nil_append, Hl1.out]; omega) ⟨b, o2, none⟩ (by simp [Act.eval, Act.put]) (by exact HC2.out _ hb2) (by exact hb2.size) ?_; intro A3 c3 w4 hown3 hgr3; rw [HLen2.out] at hown3 ⊢; have hb3 : Below w.heap.size w w4 := OwnL.grownBelow hown2 hgr3 hb2 (Nat.le_refl _) hb2.size; clear hgr3)))
      all_goals
        rw [List.nil_append, Hout.out] at hown3
        go_wp2_with fail
        go_ret2
        exact LlPost.mk HR.out hown3 hb3
end Go.Proofs.Ytkcfclkpbmeaiaa
