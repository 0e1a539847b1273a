/- NetTree: the reference walked. -/
import Derived.Test.YtkcfclkpbmeaiaaTraf
namespace Go.Proofs.Ytkcfclkpbmeaiaa
set_option linter.unusedVariables false
set_option linter.unusedSimpArgs false
open Go.RowKit
def treeRow (n : Int) (L : List Ln) (a k : Nat) : List Int := (List.range k).map fun j => mostV n L a ((a + 1 + j : Nat) : Int)
def treeTo (n : Nat) (L : List Ln) (a : Nat) : List Int := (List.range a).flatMap fun i => treeRow n L i (n - (i + 1))
theorem treeRow_next (n : Int) (L : List Ln) (a k : Nat) : treeRow n L a k ++ [mostV n L a ((a + 1 + k : Nat) : Int)] = treeRow n L a (k + 1) := by
  simp [treeRow, List.range_succ]
theorem treeTo_next (n : Nat) (L : List Ln) (a : Nat) : treeTo n L a ++ treeRow n L a (n - (a + 1)) = treeTo n L (a + 1) := by
  simp [treeTo, List.range_succ, List.flatMap_append]
theorem treeRow_len (n : Int) (L : List Ln) (a k : Nat) : (treeRow n L a k).length = k := by simp [treeRow]
theorem treeTo_len (n : Nat) (L : List Ln) (a : Nat) : (treeTo n L a).length ≤ n * a := by
  induction a with
  | zero => simp [treeTo]
  | succ a ih => rw [← treeTo_next, List.length_append, treeRow_len, Nat.mul_succ]; omega
def TreeR (n : Int) (L : List Ln) (xs : List Int) (ok : Bool) : Prop := ok = netOk n L ∧ xs = if netOk n L = true then treeTo n.toNat L n.toNat else []
theorem two_mk {n a b : Nat} {L : List Ln} (h : netOk n L = true) (ha : a < n) (hb : b < n) (hab : a ≠ b) : twoOk n L a b = true := by
  rw [twoOk, h, inB_iff.2 (by omega), inB_iff.2 (by omega)]
  have : ((a : Int) == b) = false := by rw [beq_eq_false_iff_ne]; omega
  rw [this]; rfl
set_option maxRecDepth 100000 in
theorem sNetTree (n : Int) (A : Option Addr) (c : Nat) (L : List Ln) (hL1 : L.length ≤ 1048576) (w : World) (hL : Lns w w.heap.size A L) :
    Calls Try.prog 32 #[.int .i64 n, .slice A L.length c] w (SlPost (TreeR n L) w) := by
  have HN := Lib.hid (fun w hL => specNet n A c L hL1 w hL)
  have HM := Lib.hid (fun p q w hL => sTrafficMost n A c L p q hL1 w hL)
  cases h1 : netOk n L with
  | false =>
    rw [h1] at HN
    have HR : Hid (TreeR n L [] false) := ⟨h1.symm, by rw [h1]; rfl⟩
    clear h1 HM
    by_cases hn0 : 0 < n
    · go_enter Try.func32, Try.ntmps32
      go_wp2_with fail
      go_loopw [6, 7, 8] (fun v a _ wr => a = .int .i64 0 ∧ v = .slice (some ⟨w.heap.size, 0, none⟩) 0 0 ∧ wr = w.alloc (.cells #[] 3)) (fun _ _ _ _ => 0)
      case atStart => exact ⟨rfl, rfl, rfl⟩
      case round =>
        obtain ⟨rfl, rfl, rfl⟩ := hrel
        have hown := Own.lit0 w w.heap.size (Nat.le_refl _)
        have hb0 : Below w.heap.size w (w.alloc (.cells #[] 3)) := (Below.refl _ _).alloc (Nat.le_refl _) _
        go_wp2_with fail
        refine (HN.out _ ((hL.below hb0).more hb0.size)).mono ?_
        rintro e w1 ⟨rfl, hb1⟩
        replace hown := hown.below hb1
        replace hb1 := hb0.trans (hb1.mono hb0.size)
        clear hb0
        go_wp2_with fail
        refine (HN.out _ ((hL.below hb1).more hb1.size)).mono ?_
        rintro e w2 ⟨rfl, hb2⟩
        replace hown := hown.below hb2
        replace hb2 := hb1.trans (hb2.mono hb1.size)
        clear hb1
        go_wp2_with fail
        go_ret2
        exact SlPost.mk HR.out hown hb2
    · go_enter Try.func32, Try.ntmps32
      go_wp2_with fail
      go_loopw [6, 7, 8] (fun v a _ wr => a = .int .i64 0 ∧ v = .slice (some ⟨w.heap.size, 0, none⟩) 0 0 ∧ wr = w.alloc (.cells #[] 3)) (fun _ _ _ _ => 0)
      case atStart => exact ⟨rfl, rfl, rfl⟩
      case round =>
        obtain ⟨rfl, rfl, rfl⟩ := hrel
        have hown := Own.lit0 w w.heap.size (Nat.le_refl _)
        have hb0 : Below w.heap.size w (w.alloc (.cells #[] 3)) := (Below.refl _ _).alloc (Nat.le_refl _) _
        go_wp2_with fail
        refine (HN.out _ ((hL.below hb0).more hb0.size)).mono ?_
        rintro e w2 ⟨rfl, hb2⟩
        replace hown := hown.below hb2
        replace hb2 := hb0.trans (hb2.mono hb0.size)
        clear hb0
        go_wp2_with fail
        go_ret2
        exact SlPost.mk HR.out hown hb2
  | true =>
    obtain ⟨n2, n6, hL10, hin⟩ := netOk_n h1
    obtain ⟨m, rfl⟩ := Int.eq_ofNat_of_zero_le (by omega : 0 ≤ n)
    have HR : Hid (TreeR m L (treeTo m L m) true) := ⟨h1.symm, by rw [h1]; rfl⟩
    rw [h1] at HN
    clear h1 hin
    go_enter Try.func32, Try.ntmps32
    go_wp2_with fail
    go_loopw [6, 7, 8] (fun v a _ wr => ∃ (k ll : Nat) (A' : Option Addr) (c' : Nat), k ≤ m ∧ a = .int .i64 k ∧ v = .slice A' ll c' ∧ Hid (ll = (treeTo m L k).length) ∧ Own wr w.heap.size (.slice A' ll c') (treeTo m L k) ∧ Below w.heap.size w wr) (fun _ a _ _ => m - (intOf a).toNat)
    case atStart => exact ⟨0, 0, _, _, by omega, rfl, rfl, rfl, Own.lit0 _ _ (Nat.le_refl _), (Below.refl _ _).alloc (Nat.le_refl _) _⟩
    case round =>
      obtain ⟨k, ll, A', c', hk, rfl, rfl, hll, hown, hbel⟩ := hrel
      by_cases hkm : k < m
      · go_wp2_with fail
        refine (HN.out _ ((hL.below hbel).more hbel.size)).mono ?_
        rintro e w1 ⟨rfl, hb1⟩
        replace hown := hown.below hb1
        replace hbel := hbel.trans (hb1.mono hbel.size)
        have hT : Hid (ll ≤ 36) := by
          show _ ≤ _
          rw [hll.out]
          have h1 := treeTo_len m L k
          have h2 : m * k ≤ 6 * 6 := Nat.mul_le_mul (by omega) (by omega)
          omega
        clear hb1
        go_wp2_with fail
        go_loopw [6, 8] (fun v b wr => ∃ (j : Nat) (A' : Option Addr) (c' : Nat), k + 1 + j ≤ m ∧ b = .int .i64 ((k + 1 + j : Nat) : Int) ∧ v = .slice A' (ll + j) c' ∧ Own wr w.heap.size (.slice A' (ll + j) c') (treeTo m L k ++ treeRow m L k j) ∧ Below w.heap.size w wr) (fun _ b _ => m - (intOf b).toNat)
        case atStart => exact ⟨0, A', c', by omega, by go_num, rfl, by simpa [treeRow] using hown, hbel⟩
        case round =>
          clear hown hbel
          obtain ⟨j, A', c', hj, rfl, rfl, hown, hbel⟩ := hrel
          by_cases hjm : k + 1 + j < m
          · have hlen : Hid ((treeTo m L k ++ treeRow m L k j).length = ll + j) := by show _ = _; rw [List.length_append, treeRow_len, hll.out]
            have hnext : Hid (treeTo m L k ++ treeRow m L k j ++ [mostV m L k ((k + 1 + j : Nat) : Int)] = treeTo m L k ++ treeRow m L k (j + 1)) := by show _ = _; rw [List.append_assoc, treeRow_next]
            have hm := HM.out k ((k + 1 + j : Nat) : Int) wr ((hL.below hbel).more hbel.size)
            obtain ⟨t, ht⟩ : ∃ t, t = mostV m L k ((k + 1 + j : Nat) : Int) := ⟨_, rfl⟩
            rw [← ht] at hm hnext
            replace hm := Lib.hid hm
            have h36 := hT.out
            clear ht
            go_wp2_with fail
            refine hm.out.mono ?_
            rintro e w3 ⟨r, rfl, rfl, hb3⟩
            replace hown := hown.below hb3
            replace hbel := hbel.trans (hb3.mono hbel.size)
            clear hb3
            have hsz := hbel.size
            go_wp2_with (at_builtin; refine app1 _ rfl _ _ rfl w.heap.size _ _ rfl (Own.alloc hown (Obj.cells #[.int .i64 r] 3)) (ll + j) hlen.out ⟨w3.heap.size, 0, none⟩ r rfl (alloc1_cell rfl) (by omega) (by simp; omega) ?_; intro A3 c3 w4 hown4 hgr4)
            rw [hnext.out] at hown4
            have hb4 : Below w.heap.size w w4 := Own.grownBelow (hown.alloc _) hgr4 (hbel.alloc hsz _) (Nat.le_refl _) (by simp; omega)
            clear hgr4 hown hbel
            go_wp2_with fail
            go_roundw
            case rel => exact ⟨j + 1, A3, c3, by omega, by go_num, rfl, hown4, hb4⟩
            case measure => simp [intOf]; omega
          · obtain rfl : m = k + 1 + j := by omega
            have hlast : Hid (treeTo (k + 1 + j) L k ++ treeRow ((k + 1 + j : Nat) : Int) L k j = treeTo (k + 1 + j) L (k + 1)) := by
              have := treeTo_next (k + 1 + j) L k
              rw [show k + 1 + j - (k + 1) = j by omega] at this
              exact this
            rw [hlast.out] at hown
            have hlen : Hid (ll + j = (treeTo (k + 1 + j) L (k + 1)).length) := by show _ = _; rw [← hlast.out, List.length_append, treeRow_len, hll.out]
            clear hlast
            go_wp2_with fail
            go_roundw
            case rel => exact ⟨k + 1, ll + j, A', c', by omega, by go_num, rfl, hlen, hown, hbel⟩
            case measure => simp [intOf]; omega
      · obtain rfl : k = m := by omega
        go_wp2_with fail
        refine (HN.out _ ((hL.below hbel).more hbel.size)).mono ?_
        rintro e w2 ⟨rfl, hb2⟩
        replace hown := hown.below hb2
        replace hbel := hbel.trans (hb2.mono hbel.size)
        go_wp2_with fail
        go_ret2
        exact SlPost.mk HR.out hown hbel
end Go.Proofs.Ytkcfclkpbmeaiaa
