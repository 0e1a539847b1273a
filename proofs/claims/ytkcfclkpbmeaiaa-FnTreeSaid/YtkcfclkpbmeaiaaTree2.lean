/- NetTree: the program walked. -/
import Derived.Test.YtkcfclkpbmeaiaaTree
namespace Go.Proofs.Ytkcfclkpbmeaiaa
set_option linter.unusedVariables false
set_option linter.unusedSimpArgs false
open Go.RowKit
set_option maxRecDepth 100000 in
theorem iNetTree (n : Int) (A : Option Addr) (c : Nat) (L : List Ln) (hL1 : L.length ≤ 1048576) (w : World) (hL : Lns w w.heap.size A L) :
    Calls Try.prog 31 #[.int .i64 n, .slice A L.length c] w (SlPost (TreeR n L) w) := by
  have HN := Lib.hid (implNet n A c L hL1 w hL)
  cases h1 : netOk n L with
  | false =>
    rw [h1] at HN
    have HR : Hid (TreeR n L [] false) := ⟨h1.symm, by rw [h1]; rfl⟩
    clear h1
    go_enter Try.func31, Try.ntmps31
    go_wp2_with fail
    refine HN.out.mono ?_
    rintro e w1 ⟨rfl, hb1⟩
    go_wp2_with fail
    go_ret2
    exact SlPost.mk HR.out (Own.nil _ _) hb1
  | true =>
    obtain ⟨n2, n6, hL10, hin⟩ := netOk_n h1
    obtain ⟨m, rfl⟩ := Int.eq_ofNat_of_zero_le (by omega : 0 ≤ n)
    rw [Int.toNat_natCast] at hin
    have HR : Hid (TreeR m L (treeTo m L m) true) := ⟨h1.symm, by rw [h1]; rfl⟩
    have HV : Hid (∀ a b : Nat, a < m → b < m → a ≠ b → mostV m L a b = (mostRun L m a b).2) := fun a b ha hb hab => mostV_nat (two_mk h1 ha hb hab)
    have HM := Lib.hid (fun a b (ha : a < m) (hb : b < m) hab W h => iMost m a b A c L (by omega) ha hb hab hin hL10 W h)
    rw [h1] at HN
    clear h1 hin
    obtain ⟨cp, hcp⟩ : ∃ z : Nat, z ≤ 40 ∧ wrap64 ((wrap64 ((m : Int) * ((m : Int) - 1))).tdiv 2) = z := by
      rcases (by omega : m = 2 ∨ m = 3 ∨ m = 4 ∨ m = 5 ∨ m = 6) with rfl | rfl | rfl | rfl | rfl
      · exact ⟨1, by omega, by kernel_rfl⟩
      · exact ⟨3, by omega, by kernel_rfl⟩
      · exact ⟨6, by omega, by kernel_rfl⟩
      · exact ⟨10, by omega, by kernel_rfl⟩
      · exact ⟨15, by omega, by kernel_rfl⟩
    have hmk := fun w => mk_cap (wrap64 ((wrap64 ((m : Int) * ((m : Int) - 1))).tdiv 2)) cp hcp.2 (by omega) w
    have hcp40 := hcp.1
    clear hcp
    go_enter Try.func31, Try.ntmps31
    go_wp2_with fail
    refine HN.out.mono ?_
    rintro e w1 ⟨rfl, hb1⟩
    go_wp2_with fail
    go_loopw [6, 7, 8, 9, 10, 22] (fun v _ _ _ _ a wr => ∃ (k ll : Nat) (A' : Option Addr) (c' : Nat), k ≤ m ∧ a = .int .i64 k ∧ v = .slice A' ll c' ∧ Hid (ll = (treeTo m L k).length) ∧ Own wr w.heap.size (.slice A' ll c') (treeTo m L k) ∧ Below w.heap.size w wr) (fun _ _ _ _ _ a _ => m - (intOf a).toNat)
    case atStart => exact ⟨0, 0, _, _, by omega, rfl, rfl, rfl, Own.made0 _ _ _ hb1.size (by omega), hb1.alloc hb1.size _⟩
    case round =>
      obtain ⟨k, ll, A', c', hk, rfl, rfl, hll, hown, hbel⟩ := hrel
      by_cases hkm : k < m
      · have hT : Hid (ll ≤ 36) := by
          show _ ≤ _
          rw [hll.out]
          have h1 := treeTo_len m L k
          have h2 : m * k ≤ 6 * 6 := Nat.mul_le_mul (by omega) (by omega)
          omega
        clear hb1
        go_wp2_with fail
        go_loopw [6, 8, 9, 10] (fun v b _ _ wr => ∃ (j : Nat) (A' : Option Addr) (c' : Nat), k + 1 + j ≤ m ∧ b = .int .i64 ((k + 1 + j : Nat) : Int) ∧ v = .slice A' (ll + j) c' ∧ Own wr w.heap.size (.slice A' (ll + j) c') (treeTo m L k ++ treeRow m L k j) ∧ Below w.heap.size w wr) (fun _ b _ _ _ => m - (intOf b).toNat)
        case atStart => exact ⟨0, A', c', by omega, by go_num, rfl, by simpa [treeRow] using hown, hbel⟩
        case round =>
          clear hown hbel
          obtain ⟨j, A', c', hj, rfl, rfl, hown, hbel⟩ := hrel
          by_cases hjm : k + 1 + j < m
          · have hlen : Hid ((treeTo m L k ++ treeRow m L k j).length = ll + j) := by show _ = _; rw [List.length_append, treeRow_len, hll.out]
            have hnext : Hid (treeTo m L k ++ treeRow m L k j ++ [mostV m L k ((k + 1 + j : Nat) : Int)] = treeTo m L k ++ treeRow m L k (j + 1)) := by show _ = _; rw [List.append_assoc, treeRow_next]
            have hm := HM.out k (k + 1 + j) hkm hjm (by omega) wr ((hL.below hbel).more hbel.size)
            rw [HV.out k (k + 1 + j) hkm hjm (by omega)] at hnext
            obtain ⟨R, hR⟩ : ∃ R, R = mostRun L m k (k + 1 + j) := ⟨_, rfl⟩
            rw [← hR] at hm hnext
            replace hm := Lib.hid hm
            have h36 := hT.out
            clear hR
            go_wp2_with fail
            refine hm.out.mono ?_
            rintro e w3 ⟨g, rfl, _, _, hb3⟩
            replace hown := hown.below hb3
            replace hbel := hbel.trans (hb3.mono hbel.size)
            clear hb3
            have hsz := hbel.size
            obtain ⟨rr, f, hRr⟩ : ∃ (t : Nat) (f : List Int), R = (f, t) := ⟨R.2, R.1, rfl⟩
            subst hRr
            go_wp2_with (at_builtin; refine app1 _ rfl _ _ rfl w.heap.size _ _ rfl (Own.alloc hown (Obj.cells #[.int .i64 (rr : Int)] 3)) (ll + j) hlen.out ⟨w3.heap.size, 0, none⟩ (rr : Int) rfl (alloc1_cell rfl) (by omega) (by simp; omega) ?_; intro A3 c3 w4 hown4 hgr4)
            rw [hnext.out] at hown4
            have hb4 : Below w.heap.size w w4 := Own.grownBelow (hown.alloc _) hgr4 (hbel.alloc hsz _) (Nat.le_refl _) (by simp; omega)
            clear hgr4 hown hbel
            go_wp2_with fail
            go_roundw
            case rel => exact ⟨j + 1, A3, c3, by omega, by go_num, rfl, hown4, hb4⟩
            case measure => simp [intOf]; omega
          · obtain rfl : m = k + 1 + j := by omega
            have hlast : Hid (treeTo (k + 1 + j) L k ++ treeRow ((k + 1 + j : Nat) : Int) L k j = treeTo (k + 1 + j) L (k + 1)) := by
              have := treeTo_next (k + 1 + j) L k
              rw [show k + 1 + j - (k + 1) = j by omega] at this
              exact this
            rw [hlast.out] at hown
            have hlen : Hid (ll + j = (treeTo (k + 1 + j) L (k + 1)).length) := by show _ = _; rw [← hlast.out, List.length_append, treeRow_len, hll.out]
            clear hlast
            go_wp2_with fail
            go_roundw
            case rel => exact ⟨k + 1, ll + j, A', c', by omega, by go_num, rfl, hlen, hown, hbel⟩
            case measure => simp [intOf]; omega
      · obtain rfl : k = m := by omega
        go_wp2_with fail
        go_ret2
        exact SlPost.mk HR.out hown hbel
theorem sNetTree' (n : Int) (A : Option Addr) (c : Nat) (L : List Ln) (hL1 : L.length ≤ 1048576) (w : World) (hL : Lns w w.heap.size A L) :
    Calls Try.prog 32 #[.int .i64 n, .slice A L.length c] w (SpPost (TreeR n L) w) := (sNetTree n A c L hL1 w hL).mono fun _ _ h => h.sp
theorem TreeR_fn (n : Int) (L : List Ln) : Fn1 (TreeR n L) := fun _ _ _ _ h k => ⟨h.2.trans k.2.symm, h.1.trans k.1.symm⟩
theorem TreeR_len {n : Int} {L : List Ln} {xs : List Int} {ok : Bool} (h : TreeR n L xs ok) : xs.length ≤ 1048576 := by
  obtain ⟨_, rfl⟩ := h
  cases h1 : netOk n L with
  | false => simp
  | true =>
    obtain ⟨n2, n6, hL10, hin⟩ := netOk_n h1
    rw [if_pos rfl]
    have h2 := treeTo_len n.toNat L n.toNat
    have h3 : n.toNat * n.toNat ≤ 6 * 6 := Nat.mul_le_mul (by omega) (by omega)
    omega
end Go.Proofs.Ytkcfclkpbmeaiaa
