/- The laws' marking of repairs. -/
import Derived.Test.YtglncadfmomamaaJb
import Derived.Test.YtglncadfmomamaaIm
namespace Go.Proofs.Ytglncadfmomamaa
set_option linter.unusedVariables false
set_option linter.unusedSimpArgs false
open Go.RowKit
def MarkJPost (K : Int) (n g : Nat) (w : World) (e : Ending) (w' : World) : Prop := e = .returned (.int .i64 (K + 2 * n)) ∧ w.grownBy w' (some g)
set_option maxRecDepth 100000 in
theorem markJobS_any (g c : Nat) (L : List Jb) (hn : L.length ≤ 1048576) (K : Int) (hK0 : 0 ≤ K) (hK : K ≤ 1000000000000) (w : World) (h : Row w g 38 (jbCells L)) :
    Calls Try.prog 40 #[.slice (some ⟨g, 0, none⟩) L.length c, .int .i64 K] w (MarkJPost K L.length g w) := by
  obtain ⟨n, hnl⟩ : ∃ n, n = L.length := ⟨_, rfl⟩
  have Hn := Lib.hid hnl
  rw [← hnl] at hn ⊢
  clear hnl
  go_enter Try.func40, Try.ntmps40
  go_wp2_with fail
  go_loopw [1, 5] (fun kv i wr => ∃ (k : Nat) (M : List Jb), k ≤ n ∧ i = .int .i64 k ∧ kv = .int .i64 (K + 2 * k) ∧ Hid (M.length = n) ∧ Row wr g 38 (jbCells M) ∧ w.grownBy wr (some g)) (fun _ i _ => n - (intOf i).toNat)
  case atStart => exact ⟨0, L, by omega, rfl, by simp, Hn.out.symm, h, grown_refl _ _⟩
  case round =>
    obtain ⟨k, M, hk, rfl, rfl, hM, hr, hgr⟩ := hrel
    by_cases hlt : k < n
    · obtain ⟨m, hm⟩ : ∃ m, M[k]? = some m := ⟨M[k]'(by rw [hM.out]; exact hlt), List.getElem?_eq_getElem _⟩
      obtain ⟨g1, g2⟩ := jbCells_get M k m hm
      have e1 := hr.cellI g1
      have e2 := hr.cellI g2
      have f1 := hr.frozen (k * 2)
      have f2 := hr.frozen (k * 2 + 1)
      clear g1 g2 hm
      go_wp2_with fail
      go_roundw
      case rel => exact ⟨k + 1, M.set k ⟨K + 2 * k, K + 2 * k + 1⟩, by omega, by go_num, by go_num, (by show Hid _; exact (by rw [List.length_set]; exact hM.out)), (((hr.set _ _).set _ _).eq (jbCells_set M k ⟨K + 2 * k, K + 2 * k + 1⟩ (by rw [hM.out]; exact hlt))), grown_trans (grown_trans hgr (grown_set _ _ _ _)) (grown_set _ _ _ _)⟩
      case measure => simp [intOf]; omega
    · obtain rfl : k = n := by omega
      go_wp2_with fail
      go_ret
      exact ⟨rfl, hgr⟩
end Go.Proofs.Ytglncadfmomamaa
