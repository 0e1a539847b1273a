/- slices.Repeat of one number, walked. -/
import Derived.Test.YtkcfclkpbmeaiaaRes
import Derived.Test.YtkcfclkpbmeaiaaSteps
import Derived.Laws.CopyOwn
import Derived.Laws.BitsAllLaws
namespace Go.Proofs.Ytkcfclkpbmeaiaa
set_option linter.unusedVariables false
set_option linter.unusedSimpArgs false
open Go.RowKit
def IRow' (n : Nat) (w : World) (e : Ending) (w' : World) : Prop := ∃ g, e = .returned (.slice (some ⟨g, 0, none⟩) n n) ∧ Row w' g 3 (ivs (List.replicate n (-1))) ∧ w.heap.size ≤ g ∧ Below w.heap.size w w'
theorem mul64_1 (n : Nat) (h1 : 1 ≤ n) (h6 : n ≤ 6) (w : World) :
    Calls Try.prog 87 #[.int .u64 1, .int .u64 n] w fun e w' => e = .returned (.tuple #[.int .u64 0, .int .u64 n]) ∧ w = w' := by
  rcases (by omega : n = 1 ∨ n = 2 ∨ n = 3 ∨ n = 4 ∨ n = 5 ∨ n = 6) with rfl | rfl | rfl | rfl | rfl | rfl
  all_goals
    go_enter Try.func87, Try.ntmps87
    go_wp2
    go_ret2
    exact ⟨by first | rfl | trace_state, rfl⟩
theorem mul_1 (n : Nat) (h1 : 1 ≤ n) (h6 : n ≤ 6) (w : World) :
    Calls Try.prog 85 #[.int .u64 1, .int .u64 n] w fun e w' => e = .returned (.tuple #[.int .u64 0, .int .u64 n]) ∧ w = w' := by
  have HM := Lib.hid (mul64_1 n h1 h6)
  rcases (by omega : n = 1 ∨ n = 2 ∨ n = 3 ∨ n = 4 ∨ n = 5 ∨ n = 6) with rfl | rfl | rfl | rfl | rfl | rfl
  all_goals
    go_enter Try.func85, Try.ntmps85
    go_wp2_with fail
    refine (HM.out _).mono ?_
    rintro e w1 ⟨rfl, rfl⟩
    go_wp2_with fail
    go_ret2
    exact ⟨rfl, rfl⟩
theorem splice_ivs (L : List Int) (o : Nat) (cs : List Int) : splice (ivs L) o (ivs cs) = ivs (splice L o cs) := by
  simp [splice, ivs, List.map_take, List.map_drop]
theorem splice_low {L cs : List Int} {o i : Nat} (h : i < o) (ho : o ≤ L.length) : (splice L o cs)[i]? = L[i]? := by
  rw [splice, List.getElem?_append_left (by simp; omega), List.getElem?_take, if_pos h]
theorem splice_mid {L cs : List Int} {o i : Nat} (h1 : o ≤ i) (h2 : i < o + cs.length) (ho : o ≤ L.length) : (splice L o cs)[i]? = cs[i - o]? := by
  rw [splice, List.getElem?_append_right (by simp; omega), List.getElem?_append_left (by simp; omega)]
  simp only [List.length_take]
  rw [Nat.min_eq_left ho]
theorem ones_step {M : List Int} {n j r : Nat} (hl : M.length = n) (hM : ∀ i, i < j → M[i]? = some (-1)) (hjr : j + r ≤ n) : (splice M j (List.replicate r (-1))).length = n ∧ ∀ i, i < j + r → (splice M j (List.replicate r (-1)))[i]? = some (-1) := by
  constructor
  · rw [length_splice _ _ _ (by simp; omega)]; exact hl
  · intro i hi
    rcases Nat.lt_or_ge i j with h | h
    · rw [splice_low h (by omega)]; exact hM i h
    · rw [splice_mid h (by simpa using hi) (by omega), List.getElem?_replicate, if_pos (by omega)]
theorem ones_all {M : List Int} {n : Nat} (hl : M.length = n) (hM : ∀ i, i < n → M[i]? = some (-1)) : M = List.replicate n (-1) := by
  apply List.ext_getElem?
  intro j
  rcases Nat.lt_or_ge j n with h | h
  · rw [hM j h, List.getElem?_replicate, if_pos h]
  · rw [List.getElem?_eq_none (by rw [hl]; exact h), List.getElem?_eq_none (by simpa using h)]
theorem one_cell {w : World} {h : Nat} (hc : w.cell? ⟨h, 0, none⟩ = some (.int .i64 (-1))) (j : Nat) (x : Int) (hj : (List.replicate 1 (-1 : Int))[j]? = some x) : w.cell? ⟨h, 0 + j, none⟩ = some (.int .i64 x) := by
  cases j with
  | zero => simp at hj; subst hj; exact hc
  | succ j => simp at hj
theorem ones_cells {w : World} {g n j : Nat} {M : List Int} (h : Row w g 3 (ivs M)) (hM : ∀ i, i < j → M[i]? = some (-1)) (r : Nat) (hr : r ≤ j) (i : Nat) (x : Int) (hi : (List.replicate r (-1 : Int))[i]? = some x) : w.cell? ⟨g, 0 + i, none⟩ = some (.int .i64 x) := by
  have hlt : i < r := by have := (List.getElem?_eq_some_iff.1 hi).1; simpa using this
  rw [List.getElem?_replicate, if_pos hlt] at hi
  injection hi with hi
  subst hi
  rw [Nat.zero_add]
  exact h.cellI (ivs_get (hM i (by omega)))
theorem intSize : (Try.prog.info? 3).map (·.size) = some 1 := by kernel_rfl
theorem copy_ints {w : World} {ops : Array Oper} {rest : List Oper} {o : Oper} {a : Act} {Q : Exit → Act → World → Prop} (hgd : o.guard = none) (d s : Operand)
    (ho : o.op = .call { callee := .builtin .copy, args := #[d, s], argTypes := #[24, 24] })
    (dp sp : Option Addr) (dLen dCap sLen sCap : Nat) (hd : a.eval d = .slice dp dLen dCap) (hs : a.eval s = .slice sp sLen sCap)
    (g off : Nat) (cur : List Int) (hg : Row w g 3 (ivs cur)) (cs : List Int) (hn : cs.length = Nat.min sLen dLen)
    (hpos : 0 < cs.length → dp = some ⟨g, off, none⟩ ∧ ∃ b o2, sp = some ⟨b, o2, none⟩ ∧ ∀ j x, cs[j]? = some x → w.cell? ⟨b, o2 + j, none⟩ = some (.int .i64 x))
    (hfit : off + cs.length ≤ cur.length) (B : Nat) (w0 : World) (hb : Below B w0 w) (hBg : B ≤ g)
    (h : ∀ w', Row w' g 3 (ivs (splice cur off cs)) → Below B w0 w' → wpList Try.prog ops Q rest (a.put o.dst (.int .i64 cs.length)) w') :
    wpList Try.prog ops Q (o :: rest) a w := by
  refine wpList_copy_splice hgd d s 24 24 ho 3 Try.underlying24 intSize dp sp dLen dCap sLen sCap hd hs g off (ivs cur) 3 hg (ivs cs) (by rw [ivs_length]; exact hn) ?_ (by rw [ivs_length, ivs_length]; exact hfit) ?_ B w0 hb hBg ?_
  · intro h0
    rw [ivs_length] at h0
    obtain ⟨e1, b, o2, e2, hc⟩ := hpos h0
    refine ⟨e1, _, e2, fun j v hj => ?_⟩
    have e : (⟨b, o2, none⟩ : Addr).add j = ⟨b, o2 + j, none⟩ := by
      unfold Addr.add; split
      · rename_i h; subst h; rfl
      · rfl
    rw [e]
    cases hx : cs[j]? with
    | none => rw [ivs, List.getElem?_map, hx] at hj; cases hj
    | some x => rw [ivs_get hx] at hj; injection hj with hj; rw [← hj]; exact hc j x hx
  · intro v hv
    rw [ivs, List.mem_map] at hv
    obtain ⟨x, _, rfl⟩ := hv
    rfl
  · intro w' h1 h2
    have h3 := h1.out
    rw [splice_ivs] at h3
    rw [ivs_length]
    exact h w' h3 h2
theorem step_copy_ints {w : World} {ops : Array Oper} {o : Oper} {a : Act} {K : Act → World → Prop} {Q : Exit → Act → World → Prop} {E : Prop} (hgd : o.guard = none) (d s : Operand)
    (ho : o.op = .call { callee := .builtin .copy, args := #[d, s], argTypes := #[24, 24] })
    (dp sp : Option Addr) (dLen dCap sLen sCap : Nat) (hd : a.eval d = .slice dp dLen dCap) (hs : a.eval s = .slice sp sLen sCap)
    (g off : Nat) (cur : List Int) (hg : Row w g 3 (ivs cur)) (cs : List Int) (hn : cs.length = Nat.min sLen dLen)
    (hpos : 0 < cs.length → dp = some ⟨g, off, none⟩ ∧ ∃ b o2, sp = some ⟨b, o2, none⟩ ∧ ∀ j x, cs[j]? = some x → w.cell? ⟨b, o2 + j, none⟩ = some (.int .i64 x))
    (hfit : off + cs.length ≤ cur.length) (B : Nat) (w0 : World) (hb : Below B w0 w) (hBg : B ≤ g)
    (h : ∀ w', Row w' g 3 (ivs (splice cur off cs)) → Below B w0 w' → K (a.put o.dst (.int .i64 cs.length)) w') :
    if Region.wanted o (yielded ops a.tmps) = true then Oper.wp Try.prog o a w K Q else E := by
  refine step_copy_splice hgd d s 24 24 ho 3 Try.underlying24 intSize dp sp dLen dCap sLen sCap hd hs g off (ivs cur) 3 hg (ivs cs) (by rw [ivs_length]; exact hn) ?_ (by rw [ivs_length, ivs_length]; exact hfit) ?_ B w0 hb hBg ?_
  · intro h0
    rw [ivs_length] at h0
    obtain ⟨e1, b, o2, e2, hc⟩ := hpos h0
    refine ⟨e1, _, e2, fun j v hj => ?_⟩
    have e : (⟨b, o2, none⟩ : Addr).add j = ⟨b, o2 + j, none⟩ := by
      unfold Addr.add; split
      · rename_i h; subst h; rfl
      · rfl
    rw [e]
    cases hx : cs[j]? with
    | none => rw [ivs, List.getElem?_map, hx] at hj; cases hj
    | some x => rw [ivs_get hx] at hj; injection hj with hj; rw [← hj]; exact hc j x hx
  · intro v hv
    rw [ivs, List.mem_map] at hv
    obtain ⟨x, _, rfl⟩ := hv
    rfl
  · intro w' h1 h2
    have h3 := h1.out
    rw [splice_ivs] at h3
    rw [ivs_length]
    exact h w' h3 h2
set_option maxRecDepth 100000 in
theorem repeat_1 (h n : Nat) (h1 : 1 ≤ n) (h6 : n ≤ 6) (w : World) (hc : w.cell? ⟨h, 0, none⟩ = some (.int .i64 (-1))) (hh : h < w.heap.size) :
    Calls Try.prog 84 #[.slice (some ⟨h, 0, none⟩) 1 1, .int .i64 n] w (IRow' n w) := by
  have HM := Lib.hid (mul_1 n h1 h6)
  have hmk := fun w => mk_row (P := Try.prog) 24 3 (.int .i64 0) 8 Try.underlying24 intInfo rfl (n : Int) n rfl (by omega) (by omega) w
  have hrow0 : Hid (∀ w : World, Row (w.alloc (Obj.cells (madeCells #[.int .i64 0] n) 3)) w.heap.size 3 (ivs (List.replicate n 0))) := fun w => by
    refine Row.newS _ 3 _ rfl ?_
    rw [madeCells_toList', ivs_zero]
  go_enter Try.func84, Try.ntmps84
  go_wp2_with fail
  refine (HM.out _).mono ?_
  rintro e w1 ⟨rfl, rfl⟩
  have hrw := hrow0.out w
  have hcell : (w.alloc (Obj.cells (madeCells #[.int .i64 0] n) 3)).cell? ⟨h, 0, none⟩ = some (.int .i64 (-1)) := (World.cell?_alloc_lt w _ _ hh).trans hc
  have HRW := Lib.hid hrw
  have HC := Lib.hid hcell
  clear hrw hcell
  go_wp2_with ((with_reducible show wpList _ _ _ (⟨some 33, _, _, _, _, _⟩ :: _) _ _); go_loud (refine copy_ints rfl (.tmp 31) (.tmp 32) (by rfl) (some ⟨w.heap.size, 0, none⟩) (some ⟨h, 0, none⟩) n n 1 1 (by rfl) (by rfl) w.heap.size 0 (List.replicate n 0) (by exact HRW.out) (List.replicate 1 (-1)) (by simp [Nat.min_def]; omega) (by exact fun _ => ⟨rfl, h, 0, rfl, one_cell HC.out⟩) (by simp; omega) w.heap.size w (by exact (Below.refl _ _).alloc (Nat.le_refl _) _) (Nat.le_refl _) ?_); intro w4 hr4 hb4)
  have hM0 := ones_step (M := List.replicate n 0) (n := n) (j := 0) (r := 1) (by simp) (fun i hi => absurd hi (by omega)) (by omega)
  have HM0 := Lib.hid hM0
  clear hM0
  go_wp2_with fail
  go_loopw [8] (fun i wr => ∃ (j : Nat) (M : List Int), 1 ≤ j ∧ j ≤ n ∧ i = .int .i64 j ∧ Hid (M.length = n ∧ ∀ i, i < j → M[i]? = some (-1)) ∧ Row wr w.heap.size 3 (ivs M) ∧ Below w.heap.size w wr) (fun i _ => n - (intOf i).toNat)
  case atStart => exact ⟨1, _, by omega, h1, rfl, HM0.out, hr4, hb4⟩
  case round =>
    clear hr4 hb4
    obtain ⟨j, M, hj1, hjn, rfl, hM, hr, hbel⟩ := hrel
    by_cases hlt : j < n
    · obtain ⟨r, hr'⟩ : ∃ r, r = min j (n - j) := ⟨_, rfl⟩
      have hr1 : r ≤ j := by omega
      have hr2 : j + r ≤ n := by omega
      have hr3 : 1 ≤ r := by omega
      have hmin : r = Nat.min j (n - j) := by rw [hr']
      have HMin := Lib.hid hmin
      have hlen := hM.out.1
      have Hlen := Lib.hid hlen
      have hnx := ones_step hM.out.1 hM.out.2 hr2
      have Hnx := Lib.hid hnx
      have w1 : IntKind.i64.wrap ((j : Int) + (r : Int)) = (j : Int) + (r : Int) := IntWalk.i64_in _ (by omega)
      clear hr' hmin hlen hnx
      go_wp2_with fail
      go_region_law ((refine step_copy_ints rfl (.tmp 41) (.tmp 44) rfl (some ⟨w.heap.size, j, none⟩) (some ⟨w.heap.size, 0, none⟩) (n - j) (n - j) j n (by simp [Act.eval, Act.put]; omega) (by simp [Act.eval, Act.put]) w.heap.size j M (by exact hr) (List.replicate r (-1)) (by rw [List.length_replicate]; exact HMin.out) (fun _ => ⟨rfl, w.heap.size, 0, rfl, ones_cells (n := n) hr hM.out.2 r hr1⟩) (by rw [List.length_replicate, Hlen.out]; exact hr2) w.heap.size w (by exact hbel.drew) (Nat.le_refl _) ?_; intro w5 hr5 hb5))
      all_goals
        go_wp2_with fail
        go_roundw
        case rel => exact ⟨j + r, by omega, by omega, by omega, splice M j (List.replicate r (-1)), Hnx.out, hr5⟩
        case measure => simp [intOf]; omega
    · obtain rfl : j = n := by omega
      have hMr := ones_all hM.out.1 hM.out.2
      subst hMr
      go_wp2_with fail
      go_ret
      exact ⟨w.heap.size, rfl, hr, Nat.le_refl _, hbel⟩
end Go.Proofs.Ytkcfclkpbmeaiaa
