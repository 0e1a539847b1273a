/- The least loss behind a beginning: plain. -/
import Derived.Test.YtglncadfmomamaaLoss
import Derived.Test.YtglncadfmomamaaEnds
import Derived.Test.YtglncadfmomamaaPb
namespace Go.Proofs.Ytglncadfmomamaa
set_option linter.unusedVariables false
set_option linter.unusedSimpArgs false
/-- The least loss of all repairs behind those that are done. -/
def minB (b v : Int) : Int := if b < 0 ∨ v < b then v else b
def leastG (E : Int → Int) (J : List Jb) (n : Nat) : Nat → List Int → Int → Int
  | 0, _, _ => 0
  | r + 1, dn, wk => (List.range n).foldl (fun b (i : Nat) => if (i : Int) ∈ dn then b else minB b ((jAt J i).w * E (wk + (jAt J i).d) + leastG E J n r (dn ++ [(i : Int)]) (wk + (jAt J i).d))) (-1)
def leastTo (E : Int → Int) (J : List Jb) (n r : Nat) (dn : List Int) (wk : Int) (k : Nat) : Int := (List.range k).foldl (fun b (i : Nat) => if (i : Int) ∈ dn then b else minB b ((jAt J i).w * E (wk + (jAt J i).d) + leastG E J n r (dn ++ [(i : Int)]) (wk + (jAt J i).d))) (-1)
theorem leastTo_succ (E : Int → Int) (J : List Jb) (n r : Nat) (dn : List Int) (wk : Int) (k : Nat) : leastTo E J n r dn wk (k + 1) = if (k : Int) ∈ dn then leastTo E J n r dn wk k else minB (leastTo E J n r dn wk k) ((jAt J (k : Nat)).w * E (wk + (jAt J (k : Nat)).d) + leastG E J n r (dn ++ [(k : Int)]) (wk + (jAt J (k : Nat)).d)) := by
  unfold leastTo
  rw [List.range_succ, List.foldl_append]
  rfl
theorem minB_cases (b v : Int) : minB b v = v ∨ minB b v = b := by unfold minB; split <;> simp
theorem wE_bd {a e : Int} (h1 : 1 ≤ a) (h2 : a ≤ 9) (h3 : -1 ≤ e) (h4 : e ≤ 30) : -9 ≤ a * e ∧ a * e ≤ 270 := by
  constructor
  · have := Int.mul_le_mul_of_nonneg_left h3 (show 0 ≤ a by omega); omega
  · have := Int.mul_le_mul_of_nonneg_left h4 (show 0 ≤ a by omega); omega
theorem leastG_bd {E : Int → Int} {J : List Jb} (hE : ∀ x, -1 ≤ E x ∧ E x ≤ 30) (hJ : JobsFit J) : ∀ (r : Nat) (dn : List Int) (wk : Int), -9 * (r : Int) - 1 ≤ leastG E J J.length r dn wk ∧ leastG E J J.length r dn wk ≤ 270 * r
  | 0, _, _ => by unfold leastG; omega
  | r + 1, dn, wk => by
    have key : ∀ k, k ≤ J.length → -9 * ((r + 1 : Nat) : Int) - 1 ≤ leastTo E J J.length r dn wk k ∧ leastTo E J J.length r dn wk k ≤ 270 * (r + 1 : Nat) := by
      intro k
      induction k with
      | zero => intro _; simp [leastTo]; omega
      | succ k ih =>
        intro hk
        have ih := ih (by omega)
        rw [leastTo_succ]
        split
        · exact ih
        · have h1 := leastG_bd hE hJ r (dn ++ [(k : Int)]) (wk + (jAt J (k : Nat)).d)
          have h2 := hJ k (by omega)
          have h3 := hE (wk + (jAt J (k : Nat)).d)
          have h4 := wE_bd h2.2.2.1 h2.2.2.2 h3.1 h3.2
          rcases minB_cases (leastTo E J J.length r dn wk k) ((jAt J (k : Nat)).w * E (wk + (jAt J (k : Nat)).d) + leastG E J J.length r (dn ++ [(k : Int)]) (wk + (jAt J (k : Nat)).d)) with h | h <;> rw [h]
          · push_cast at *; omega
          · exact ih
    exact key J.length (Nat.le_refl _)
theorem fcDay_bd {l : List UInt8} (h : fcValid l = true) (hl : l.length ≤ 30) (x : Int) : -1 ≤ fcDay l x ∧ fcDay l x ≤ 30 := by
  rw [fcDay_end h]; exact fcEnd_bd l x hl
end Go.Proofs.Ytglncadfmomamaa
