/- SignalLetters: the walks of the reference's and the program's function. -/
import Derived.Test.YtpldkfbglfcidaaDoorChecked
import Derived.Test.YtpldkfbglfcidaaDoorPlain
import Derived.Test.YtpldkfbglfcidaaDoorMem
import Derived.WalkLawsBesides
import Derived.WalkSpells
import Derived.Outline
import Derived.BigRegion
import Derived.StillTailTactics
namespace Go.Proofs.YtpldkfbglfcidaaDoor
set_option linter.unusedVariables false
set_option linter.unusedSimpArgs false
open Go.RowKit

def manyL : List Nat := [0, 2, 4, 8, 12]
def stepW (k m : Nat) (l : List Nat) : List Nat := if m + 1 ≤ k then l.set k (l.getD k 0 + manyL.getD m 0 * l.getD (k - m - 1) 0) else l
def inW (k : Nat) : Nat → List Nat → List Nat
  | 0, l => l
  | m + 1, l => stepW k (m + 1) (inW k m l)
def outW (n : Nat) : Nat → List Nat
  | 0 => (List.replicate (n + 2) 0).set 0 1
  | k + 1 => inW (k + 1) 4 (outW n k)
def lettersW (n : Nat) : Nat := (outW n (n + 1)).getD (n + 1) 0
theorem stepW_len (k m : Nat) (l : List Nat) : (stepW k m l).length = l.length := by unfold stepW; split <;> simp
theorem inW_len (k m : Nat) (l : List Nat) : (inW k m l).length = l.length := by
  induction m with
  | zero => rfl
  | succ m ih => rw [inW, stepW_len, ih]
theorem outW_len (n k : Nat) : (outW n k).length = n + 2 := by
  induction k with
  | zero => simp [outW]
  | succ k ih => rw [outW, inW_len, ih]
theorem inW_step (n k m : Nat) (hle : m + 1 ≤ k) (x1 x2 x3 : Nat) (h : x1 = (inW (k + 1) m (outW n k)).getD (k + 1) 0 ∧ x2 = manyL.getD (m + 1) 0 ∧ x3 = (inW (k + 1) m (outW n k)).getD (k - m - 1) 0) :
    nats ((inW (k + 1) m (outW n k)).set (k + 1) (x1 + x2 * x3)) = nats (inW (k + 1) (m + 1) (outW n k)) := by
  obtain ⟨rfl, rfl, rfl⟩ := h
  rw [inW, stepW, if_pos (by omega), show k + 1 - (m + 1) - 1 = k - m - 1 by omega]
theorem inW_skip (n k m : Nat) (hle : ¬ m + 1 ≤ k) : inW (k + 1) m (outW n k) = inW (k + 1) (m + 1) (outW n k) := by
  rw [inW, stepW, if_neg (by omega)]
theorem bound_all : (List.range 17).all (fun n => (List.range 18).all fun k => (List.range 5).all fun m => (inW (k + 1) m (outW n k)).all fun x => decide (x ≤ 1000000000000)) = true := by decide +kernel
theorem bound_at (n k m : Nat) (hn : n ≤ 16) (hk : k ≤ 17) (hm : m ≤ 4) (i : Nat) : (inW (k + 1) m (outW n k)).getD i 0 ≤ 1000000000000 := by
  have h := bound_all
  rw [List.all_eq_true] at h
  have h := h n (by simp; omega)
  rw [List.all_eq_true] at h
  have h := h k (by simp; omega)
  rw [List.all_eq_true] at h
  have h := h m (by simp; omega)
  rw [List.all_eq_true] at h
  rw [List.getD_eq_getElem?_getD]
  cases hx : (inW (k + 1) m (outW n k))[i]? with
  | none => simp
  | some x => exact of_decide_eq_true (h x (List.mem_of_getElem? hx))

theorem l6In_any (n a b : Int) (w : World) :
    Calls Tryd.prog 36 #[.int .i64 n, .int .i64 a, .int .i64 b] w fun e w' => e = .returned (.bool (decide (a ≤ n ∧ n ≤ b))) ∧ w = w' := by
  by_cases h3 : a ≤ n
  · go_enter Tryd.func36, Tryd.ntmps36
    go_wp2
    go_ret
    exact ⟨ret_bool (by simp; omega), rfl⟩
  · go_enter Tryd.func36, Tryd.ntmps36
    go_wp2
    go_ret
    exact ⟨ret_bool (by simp; omega), rfl⟩
theorem within_any (n a b : Int) (w : World) :
    Calls Tryd.prog 35 #[.int .i64 n, .int .i64 a, .int .i64 b] w fun e w' => e = .returned (.bool (decide (a ≤ n ∧ n ≤ b))) ∧ w = w' := by
  by_cases h3 : a ≤ n
  · go_enter Tryd.func35, Tryd.ntmps35
    go_wp2
    go_ret
    exact ⟨ret_bool (by simp; omega), rfl⟩
  · go_enter Tryd.func35, Tryd.ntmps35
    go_wp2
    go_ret
    exact ⟨ret_bool (by simp; omega), rfl⟩
theorem l6In_yes (n a b : Int) (h : a ≤ n ∧ n ≤ b) (w : World) :
    Calls Tryd.prog 36 #[.int .i64 n, .int .i64 a, .int .i64 b] w fun e w' => e = .returned (.bool true) ∧ w = w' :=
  (l6In_any n a b w).mono fun _ _ ⟨he, hw⟩ => ⟨by rw [he, decide_eq_true h], hw⟩
theorem l6In_no (n a b : Int) (h : ¬ (a ≤ n ∧ n ≤ b)) (w : World) :
    Calls Tryd.prog 36 #[.int .i64 n, .int .i64 a, .int .i64 b] w fun e w' => e = .returned (.bool false) ∧ w = w' :=
  (l6In_any n a b w).mono fun _ _ ⟨he, hw⟩ => ⟨by rw [he, decide_eq_false h], hw⟩
theorem within_yes (n a b : Int) (h : a ≤ n ∧ n ≤ b) (w : World) :
    Calls Tryd.prog 35 #[.int .i64 n, .int .i64 a, .int .i64 b] w fun e w' => e = .returned (.bool true) ∧ w = w' :=
  (within_any n a b w).mono fun _ _ ⟨he, hw⟩ => ⟨by rw [he, decide_eq_true h], hw⟩
theorem within_no (n a b : Int) (h : ¬ (a ≤ n ∧ n ≤ b)) (w : World) :
    Calls Tryd.prog 35 #[.int .i64 n, .int .i64 a, .int .i64 b] w fun e w' => e = .returned (.bool false) ∧ w = w' :=
  (within_any n a b w).mono fun _ _ ⟨he, hw⟩ => ⟨by rw [he, decide_eq_false h], hw⟩

theorem intInfoL : (Tryd.prog.info? 3).map (fun i => (i.zero, i.size, i.bytes)) = some (some (.int .i64 0), 1, 8) := by kernel_rfl

theorem specLetters (n : Nat) (h1 : 1 ≤ n) (h2 : n ≤ 16) (w : World) :
    Calls Tryd.prog 14 #[.int .i64 n] w fun e w' => e = .returned (.int .i64 (lettersW n)) ∧ Below w.heap.size w w' := by
  have hmk := fun w => mk_row (P := Tryd.prog) 33 3 (.int .i64 0) 8 Tryd.underlying33 intInfoL rfl ((n : Int) + 2) (n + 2) (by omega) (by omega) (by omega) w
  have hc0 := made_at (.int .i64 0) (n + 2) 0 (by omega)
  obtain ⟨B, hB⟩ : ∃ B, B = w.heap.size := ⟨_, rfl⟩
  have HB := Lib.hid hB
  have hrow0 : Hid (∀ w : World, Row ((w.alloc (Obj.cells #[.int .i64 0, .int .i64 2, .int .i64 4, .int .i64 8, .int .i64 12] 3)).alloc (Obj.cells ((madeCells #[.int .i64 0] (n + 2)).setIfInBounds 0 (.int .i64 1)) 3)) (w.heap.size + 1) 3 (nats (outW n 0))) := fun w => by
    refine Row.newS _ 3 _ (by simp) ?_
    rw [Array.toList_setIfInBounds, madeCells_toList', nats_zero]
    exact nats_set _ 0 1
  clear hB
  go_enter Tryd.func14, Tryd.ntmps14
  go_wp2_with (first | (go_at_call 36; refine (l6In_yes _ _ _ (by omega) _).mono ?_; rintro e w' ⟨rfl, rfl⟩))
  go_loopw [5] (fun v wr => ∃ k : Nat, k ≤ n + 1 ∧ v = .int .i64 ((k : Int) + 1) ∧ Row wr (w.heap.size + 1) 3 (nats (outW n k)) ∧ Row wr w.heap.size 3 (nats manyL) ∧ Below w.heap.size w wr) (fun v _ => n + 2 - (intOf v).toNat)
  case atStart => exact ⟨0, by omega, by go_num, hrow0.out w, (Row.new w 3 (nats manyL)).alloc _, ((Below.refl _ _).alloc (Nat.le_refl _) _).alloc (by simp) _⟩
  case round =>
    obtain ⟨k, hk, rfl, hr, hm, hbel⟩ := hrel
    by_cases hlt : k < n + 1
    · go_wp2
      obtain ⟨wo, rfl⟩ : ∃ wo : World, wo = wr := ⟨_, rfl⟩
      go_loopw [6] (fun v wr => ∃ m : Nat, m ≤ 4 ∧ v = .int .i64 ((m : Int) + 1) ∧ Row wr (w.heap.size + 1) 3 (nats (inW (k + 1) m (outW n k))) ∧ Row wr w.heap.size 3 (nats manyL) ∧ Below w.heap.size w wr) (fun v _ => 5 - (intOf v).toNat)
      case atStart => exact ⟨0, by omega, by go_num, hr, hm, hbel⟩
      case round =>
        obtain ⟨m, hm4, rfl, hr, hm, hbel⟩ := hrel
        by_cases hlt2 : m < 4
        · by_cases hle : m + 1 ≤ k
          · have hlen : (inW (k + 1) m (outW n k)).length = n + 2 := by rw [inW_len, outW_len]
            have c1 := nats_at hr (k + 1) (by omega)
            have c2 := nats_at hm (m + 1) (by simp [manyL]; omega)
            have c3 := nats_at hr (k - m - 1) (by omega)
            have b1 := bound_at n k m h2 (by omega) hm4 (k + 1)
            have b2 : manyL.getD (m + 1) 0 ≤ 12 := by
              rcases (by omega : m = 0 ∨ m = 1 ∨ m = 2 ∨ m = 3) with rfl | rfl | rfl | rfl <;> decide
            have b3 := bound_at n k m h2 (by omega) hm4 (k - m - 1)
            obtain ⟨x1, hx1⟩ : ∃ x, x = (inW (k + 1) m (outW n k)).getD (k + 1) 0 := ⟨_, rfl⟩
            obtain ⟨x2, hx2⟩ : ∃ x, x = manyL.getD (m + 1) 0 := ⟨_, rfl⟩
            obtain ⟨x3, hx3⟩ : ∃ x, x = (inW (k + 1) m (outW n k)).getD (k - m - 1) 0 := ⟨_, rfl⟩
            rw [← hx1] at c1 b1
            rw [← hx2] at c2 b2
            rw [← hx3] at c3 b3
            have c4 := c3
            rw [show k - m - 1 = k + 1 - (m + 1) - 1 by omega] at c4
            have Hx := Lib.hid (And.intro hx1 (And.intro hx2 hx3))
            clear hx1 hx2 hx3
            have bb : 0 ≤ (x2 : Int) * (x3 : Int) ∧ (x2 : Int) * (x3 : Int) ≤ 12000000000000 := by
              constructor
              · exact Int.mul_nonneg (by omega) (by omega)
              · have := Nat.mul_le_mul b2 b3
                have h : ((x2 * x3 : Nat) : Int) ≤ ((12 * 1000000000000 : Nat) : Int) := by omega
                rwa [Int.natCast_mul] at h
            obtain ⟨bb1, bb2⟩ := bb
            have f1 := hr.frozen (k + 1)
            go_wp2
            go_region
            go_wp2
            go_roundw
            case rel => exact ⟨m + 1, by omega, by go_num, (((hr.set _ _).eq ((nats_setI _ _ _ _ (by simp)).trans (inW_step n k m hle _ _ _ Hx.out))).drew), (hm.far (by simp) _).drew, (hbel.setCell (by simp) _).drew⟩
            case measure => simp [intOf]; omega
          · go_wp2
            go_roundw
            case rel => exact ⟨m + 1, by omega, by go_num, hr.eq (congrArg nats (inW_skip n k m hle)), hm, hbel⟩
            case measure => simp [intOf]; omega
        · obtain rfl : m = 4 := by omega
          go_wp2
          go_roundw
          case rel => exact ⟨k + 1, by omega, by go_num, hr, hm, hbel⟩
          case measure => simp [intOf]; omega
    · obtain rfl : k = n + 1 := by omega
      have c1 := nats_at hr (n + 1) (by rw [outW_len]; omega)
      go_wp2
      go_ret
      exact ⟨rfl, hbel⟩
theorem implLetters (n : Nat) (h1 : 1 ≤ n) (h2 : n ≤ 16) (w : World) :
    Calls Tryd.prog 13 #[.int .i64 n] w fun e w' => e = .returned (.int .i64 (lettersW n)) ∧ Below w.heap.size w w' := by
  have hmk := fun w => mk_row (P := Tryd.prog) 33 3 (.int .i64 0) 8 Tryd.underlying33 intInfoL rfl ((n : Int) + 2) (n + 2) (by omega) (by omega) (by omega) w
  have hc0 := made_at (.int .i64 0) (n + 2) 0 (by omega)
  have hidx : ∀ j : Nat, j < 5 → ∀ w, (Instr.index 44 (.agg ⟨nats manyL⟩) (.int .i64 (j : Int))).run Tryd.prog w = .ok (.int .i64 ((manyL.getD j 0 : Nat) : Int)) w := fun j hj w => by
    rcases (by omega : j = 0 ∨ j = 1 ∨ j = 2 ∨ j = 3 ∨ j = 4) with rfl | rfl | rfl | rfl | rfl <;> kernel_rfl
  replace hidx := Lib.hid hidx
  have hrow0 : Hid (∀ w : World, Row ((w.alloc (Obj.cells #[.int .i64 0, .int .i64 2, .int .i64 4, .int .i64 8, .int .i64 12] 44)).alloc (Obj.cells ((madeCells #[.int .i64 0] (n + 2)).setIfInBounds 0 (.int .i64 1)) 3)) (w.heap.size + 1) 3 (nats (outW n 0))) := fun w => by
    refine Row.newS _ 3 _ (by simp) ?_
    rw [Array.toList_setIfInBounds, madeCells_toList', nats_zero]
    exact nats_set _ 0 1
  go_enter Tryd.func13, Tryd.ntmps13
  go_wp2_with (first | (go_at_call 35; refine (within_yes _ _ _ (by omega) _).mono ?_; rintro e w' ⟨rfl, rfl⟩))
  go_loopw [5] (fun v wr => ∃ k : Nat, k ≤ n + 1 ∧ v = .int .i64 ((k : Int) + 1) ∧ Row wr (w.heap.size + 1) 3 (nats (outW n k)) ∧ Row wr w.heap.size 44 (nats manyL) ∧ Below w.heap.size w wr) (fun v _ => n + 2 - (intOf v).toNat)
  case atStart => exact ⟨0, by omega, by go_num, hrow0.out w, (Row.new w 44 (nats manyL)).alloc _, ((Below.refl _ _).alloc (Nat.le_refl _) _).alloc (by simp) _⟩
  case round =>
    obtain ⟨k, hk, rfl, hr, hm, hbel⟩ := hrel
    by_cases hlt : k < n + 1
    · go_wp2_with (refine wpList_load_row rfl 44 _ rfl w.heap.size rfl 44 _ _ _ hm Tryd.underlying44 rfl (by kernel_rfl) ?_)
      obtain ⟨wo, rfl⟩ : ∃ wo : World, wo = wr := ⟨_, rfl⟩
      go_loopw [24] (fun v wr => ∃ j : Nat, j ≤ 5 ∧ v = .int .i64 j ∧ Row wr (w.heap.size + 1) 3 (nats (inW (k + 1) (j - 1) (outW n k))) ∧ Row wr w.heap.size 44 (nats manyL) ∧ Below w.heap.size w wr) (fun v _ => 5 - (intOf v).toNat)
      case atStart => exact ⟨0, by omega, by go_num, hr, hm, hbel⟩
      case round =>
        obtain ⟨j, hj5, rfl, hr, hm, hbel⟩ := hrel
        by_cases hj : j < 5
        · have hi := hidx.out j hj
          by_cases hj0 : j < 1
          · go_wp2
            go_roundw
            case rel => exact ⟨j + 1, by omega, by go_num, hr.eq (by rw [show j - 1 = j + 1 - 1 by omega]), hm, hbel⟩
            case measure => simp [intOf]; omega
          · have b2 : manyL.getD j 0 ≤ 12 := by
              rcases (by omega : j = 1 ∨ j = 2 ∨ j = 3 ∨ j = 4) with rfl | rfl | rfl | rfl <;> decide
            obtain ⟨x2, hx2⟩ : ∃ x, x = manyL.getD (j - 1 + 1) 0 := ⟨_, rfl⟩
            have hjj : j - 1 + 1 = j := by omega
            rw [hjj] at hx2
            rw [← hx2] at b2 hi
            by_cases hle : j ≤ k
            · have hlen : (inW (k + 1) (j - 1) (outW n k)).length = n + 2 := by rw [inW_len, outW_len]
              have c1 := nats_at hr (k + 1) (by omega)
              have c3 := nats_at hr (k - (j - 1) - 1) (by omega)
              have b1 := bound_at n k (j - 1) h2 (by omega) (by omega) (k + 1)
              have b3 := bound_at n k (j - 1) h2 (by omega) (by omega) (k - (j - 1) - 1)
              obtain ⟨x1, hx1⟩ : ∃ x, x = (inW (k + 1) (j - 1) (outW n k)).getD (k + 1) 0 := ⟨_, rfl⟩
              obtain ⟨x3, hx3⟩ : ∃ x, x = (inW (k + 1) (j - 1) (outW n k)).getD (k - (j - 1) - 1) 0 := ⟨_, rfl⟩
              rw [← hx1] at c1 b1
              rw [← hx3] at c3 b3
              rw [show k - (j - 1) - 1 = k + 1 - j - 1 by omega] at c3
              have c4 := c3
              rw [show k + 1 - j - 1 = k - j by omega] at c4
              have Hx : Hid (x1 = (inW (k + 1) (j - 1) (outW n k)).getD (k + 1) 0 ∧ x2 = manyL.getD (j - 1 + 1) 0 ∧ x3 = (inW (k + 1) (j - 1) (outW n k)).getD (k - (j - 1) - 1) 0) := ⟨hx1, by rw [hjj]; exact hx2, hx3⟩
              have Hjj := Lib.hid hjj
              clear hx1 hx2 hx3 hjj
              have bb : 0 ≤ (x2 : Int) * (x3 : Int) ∧ (x2 : Int) * (x3 : Int) ≤ 12000000000000 := by
                constructor
                · exact Int.mul_nonneg (by omega) (by omega)
                · have := Nat.mul_le_mul b2 b3
                  have h : ((x2 * x3 : Nat) : Int) ≤ ((12 * 1000000000000 : Nat) : Int) := by omega
                  rwa [Int.natCast_mul] at h
              obtain ⟨bb1, bb2⟩ := bb
              have f1 := hr.frozen (k + 1)
              go_wp2
              go_region
              go_wp2
              go_roundw
              case rel => exact ⟨j + 1, by omega, by go_num, (((hr.set _ _).eq ((nats_setI _ _ _ _ (by simp)).trans ((inW_step n k (j - 1) (by omega) _ _ _ Hx.out).trans (by rw [Hjj.out, Nat.add_sub_cancel])))).drew), (hm.far (by simp) _).drew, (hbel.setCell (by simp) _).drew⟩
              case measure => simp [intOf]; omega
            · clear hx2
              have Hjj := Lib.hid hjj
              clear hjj
              go_wp2
              go_roundw
              case rel => exact ⟨j + 1, by omega, by go_num, hr.eq ((congrArg nats (inW_skip n k (j - 1) (by omega))).trans (by rw [Hjj.out, Nat.add_sub_cancel])), hm, hbel⟩
              case measure => simp [intOf]; omega
        · obtain rfl : j = 5 := by omega
          go_wp2
          go_roundw
          case rel => exact ⟨k + 1, by omega, by go_num, hr, hm, hbel⟩
          case measure => simp [intOf]; omega
    · obtain rfl : k = n + 1 := by omega
      have c1 := nats_at hr (n + 1) (by rw [outW_len]; omega)
      go_wp2
      go_ret
      exact ⟨rfl, hbel⟩
end Go.Proofs.YtpldkfbglfcidaaDoor
