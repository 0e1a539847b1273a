/- The iterator over all orders (permutations), walked: its contract. -/
import Derived.Test.YtglncadfmomamaaEn
import Derived.Test.YtglncadfmomamaaWid
import Derived.Test.YtglncadfmomamaaTurn
import Derived.Test.YtglncadfmomamaaIm
import Derived.Test.YtglncadfmomamaaApp
namespace Go.Proofs.Ytglncadfmomamaa
set_option linter.unusedVariables false
set_option linter.unusedSimpArgs false
open Go.RowKit Go.Shelf
attribute [local go_sem] Oper.semAt_some
@[local go_sem] theorem run_store_funcv {P : Program} {w : World} {a : Addr} {m : Mode} (f : Fn) (x y : Array Value) : (store a (.func f x y) m).run P w = stored P w a (.func f x y) m := run_store P w a _ m rfl
/-- All orders that begin so, the least ones first. -/
def perms (n : Nat) : Nat → List Int → List (List Int)
  | 0, pre => [pre]
  | r + 1, pre => (List.range n).flatMap fun k : Nat => if (k : Int) ∈ pre then [] else perms n r (pre ++ [(k : Int)])
def PreOk (n : Nat) (pre : List Int) : Prop := (∀ x, x ∈ pre → 0 ≤ x ∧ x < n) ∧ pre.Nodup
def MaskOf (n m : Nat) (pre : List Int) : Prop := m < 64 ∧ ∀ k, k < n → m.testBit k = decide ((k : Int) ∈ pre)
theorem u64_bit : ∀ (m : Fin 64) (k : Fin 6), bits .and .u64 (((m : Nat) : Int) / 2 ^ (k : Nat)) 1 = if (m : Nat).testBit k then 1 else 0 := by decide
theorem u64_or : ∀ (m : Fin 64) (k : Fin 6), bits .or .u64 ((m : Nat) : Int) (2 ^ (k : Nat)) = (((m : Nat) ||| 2 ^ (k : Nat) : Nat) : Int) ∧ (m : Nat) ||| 2 ^ (k : Nat) < 64 ∧ IntKind.u64.wrap (2 ^ (k : Nat)) = 2 ^ (k : Nat) := by decide
theorem PreOk.snoc {n : Nat} {pre : List Int} (h : PreOk n pre) {k : Nat} (hk : k < n) (hn : (k : Int) ∉ pre) : PreOk n (pre ++ [(k : Int)]) := by
  refine ⟨fun x hx => ?_, ?_⟩
  · rcases List.mem_append.1 hx with h1 | h1
    · exact h.1 x h1
    · obtain rfl : x = k := by simpa using h1
      omega
  · rw [List.nodup_append]
    refine ⟨h.2, by simp, fun a ha b hb e => ?_⟩
    obtain rfl : b = k := by simpa using hb
    exact hn (e ▸ ha)
theorem MaskOf.snoc {n m : Nat} {pre : List Int} (h : MaskOf n m pre) {k : Nat} (hk : k < n) (hn : n ≤ 6) : MaskOf n (m ||| 2 ^ k) (pre ++ [(k : Int)]) := by
  refine ⟨(u64_or ⟨m, h.1⟩ ⟨k, by omega⟩).2.1, fun j hj => ?_⟩
  rw [Nat.testBit_or, h.2 j hj, Nat.testBit_two_pow]
  simp only [List.mem_append, List.mem_singleton]
  by_cases h1 : (j : Int) ∈ pre
  · simp [h1]
  · by_cases h2 : k = j
    · subst h2; simp
    · have : ¬ (j : Int) = k := by omega
      simp [h1, h2, this]
def fromV (nb D : Nat) : Value := .func (.func 85) #[] #[.pointer (some ⟨D + 2, 0, none⟩), .pointer (some ⟨nb, 0, none⟩), .pointer (some ⟨D, 0, none⟩), .pointer (some ⟨D + 3, 0, none⟩)]
/-- The iterator's own four blocks. -/
def PermAt (l n nb D : Nat) (pre : List Int) (W : World) : Prop :=
  W.cell? ⟨nb, 0, none⟩ = some (.int .i64 n) ∧ Own W D (.slice (some ⟨D + 1, 0, none⟩) pre.length n) pre ∧ Row W (D + 2) 33 [.slice (some ⟨D + 1, 0, none⟩) pre.length n] ∧
  W.cell? ⟨D, 0, none⟩ = some (.func (.yield l) #[] #[]) ∧ W.cell? ⟨D + 3, 0, none⟩ = some (fromV nb D)
theorem KeepIn.cell {nb D c : Nat} {A B : World} (h : KeepIn nb D c A B) {p : Addr} (hp : p.block = nb ∨ (D ≤ p.block ∧ p.block < D + c)) : B.cell? p = A.cell? p := by
  unfold World.cell?; rw [h.same _ hp]
theorem KeepIn.own {nb D c g n k : Nat} {A B : World} {xs : List Int} (h : KeepIn nb D c A B) (ho : Own A D (.slice (some ⟨g, 0, none⟩) k n) xs) (hg : D ≤ g ∧ g < D + c) : Own B D (.slice (some ⟨g, 0, none⟩) k n) xs := by
  obtain ⟨h1, h2⟩ := ho
  refine ⟨h1, ?_⟩
  rcases h2 with ⟨e, _⟩ | ⟨g', cap', cur, e, a1, a2, a3⟩
  · cases e
  · cases e
    exact .inr ⟨g, n, cur, rfl, a1, (h.same g (.inr hg)).trans a2, a3⟩
theorem Own.same {B g n k : Nat} {A W : World} {xs : List Int} (ho : Own A B (.slice (Option.some ⟨g, 0, Option.none⟩) k n) xs) (h : W.heap[g]? = A.heap[g]?) : Own W B (.slice (Option.some ⟨g, 0, Option.none⟩) k n) xs := by
  obtain ⟨h1, h2⟩ := ho
  refine ⟨h1, ?_⟩
  rcases h2 with ⟨e, _⟩ | ⟨g', cap', cur, e, a1, a2, a3⟩
  · cases e
  · cases e
    exact .inr ⟨g, n, cur, rfl, a1, h.trans a2, a3⟩
theorem Own.init {B g n k : Nat} {W : World} {xs : List Int} {x : Int} (ho : Own W B (.slice (Option.some ⟨g, 0, Option.none⟩) (k + 1) n) (xs ++ [x])) (hk : xs.length = k) : Own W B (.slice (Option.some ⟨g, 0, Option.none⟩) k n) xs := by
  subst hk
  obtain ⟨h1, h2⟩ := ho
  refine ⟨by simp [ivs], ?_⟩
  rcases h2 with ⟨e, _⟩ | ⟨g', cap', cur, e, a1, a2, a3, a4, a5, a6⟩
  · cases e
  · simp only [Value.slice.injEq, Option.some.injEq, Addr.mk.injEq, and_true, true_and] at e
    obtain ⟨rfl, -, rfl⟩ := e
    refine .inr ⟨g, n, cur, rfl, a1, a2, by simp at a3; omega, a4, a5, ?_⟩
    have := congrArg (List.take xs.length) a6
    rw [List.take_take] at this
    simpa [ivs, List.map_take, Nat.min_eq_left] using this
theorem PermAt.keep {l n nb D : Nat} {pre : List Int} {A B : World} (h : PermAt l n nb D pre A) (k : KeepIn nb D 4 A B) : PermAt l n nb D pre B := by
  obtain ⟨h1, h2, h3, h4, h5⟩ := h
  exact ⟨(k.cell (p := ⟨nb, 0, none⟩) (.inl rfl)).trans h1, k.own h2 (by omega), (k.same (D + 2) (.inr (by omega))).trans h3, (k.cell (p := ⟨D, 0, none⟩) (.inr ⟨by simp, by simp⟩)).trans h4, (k.cell (p := ⟨D + 3, 0, none⟩) (.inr ⟨by simp, by simp⟩)).trans h5⟩
theorem cell_far2 {w : World} {p q : Addr} {u : Value} (h : q.block ≠ p.block) : (w.setCell p u).cell? q = w.cell? q := World.cell?_of_block (Below.heap_setCell w p u q.block h)
/-- append of one number to an own slice that has room: in place. -/
theorem appF {F : Fence} {q : Nat} (w : World) {ops : Array Oper} {rest : List Oper} {o : Oper} {a : Act} {Q : Exit → Act → World → Prop} (hgd : o.guard = none) (s y : Operand)
    (ho : o.op = .call { callee := .builtin .append, args := #[s, y], argTypes := #[33, 33] })
    (B g k cap : Nat) (xs : List Int) (hs : a.eval s = .slice (some ⟨g, 0, none⟩) k cap) (hown : Own w B (.slice (some ⟨g, 0, none⟩) k cap) xs) (hk : xs.length = k)
    (ad : Addr) (x : Int) (hx : a.eval y = .slice (some ad) 1 1) (hc : w.cell? ad = some (.int .i64 x)) (hroom : k + 1 ≤ cap)
    (h : ∀ w', Own w' B (.slice (some ⟨g, 0, none⟩) (k + 1) cap) (xs ++ [x]) → w.grownBy w' (some g) → wpListIn F q Try.prog ops Q rest (a.put o.dst (.slice (some ⟨g, 0, none⟩) (k + 1) cap)) w') : wpListIn F q Try.prog ops Q (o :: rest) a w := by
  obtain ⟨i0, hi, hz0, hz1, hz2⟩ := info_parts intInfo
  subst hk
  refine wpListIn_append_fits w hgd s y 33 ho B 3 i0 1 Try.underlying33 hi hz1 g xs.length cap (ivs xs) hs hown ad 1 1 [.int .i64 x] hx rfl ?_ ?_ hroom ?_
  · intro j u hj
    cases j with
    | zero =>
      simp at hj
      subst hj
      have e : ad.add 0 = ad := by unfold Addr.add; simp
      rw [e]; exact hc
    | succ j => simp at hj
  · intro u hu; simp at hu; subst hu; rfl
  · intro w' h1 h2
    rw [ivs_app] at h1
    exact h w' (by unfold Own; rw [List.length_append]; exact h1) h2
/-- What a round is handed. -/
def HdP (n D : Nat) (x : List Int) (W : World) : Prop := x.length = n ∧ PreOk n x ∧ Own W D (.slice (some ⟨D + 1, 0, none⟩) n n) x ∧ D + 4 ≤ W.heap.size
set_option maxRecDepth 100000 in
set_option maxHeartbeats 2000000 in
theorem from_any (n l nb D : Nat) (hn : n ≤ 6) (hnb : nb < D) (J : List (List Int) → World → Prop) (hJ : ∀ pre A B, J pre A → TurnIn D 4 A B → J pre B)
    (hY : ∀ (m : Nat) (pre : List (List Int)) (x : List Int) (W1 : World), J pre W1 → HdP n D x W1 → YieldAt Fence.wide m Try.prog l #[.slice (some ⟨D + 1, 0, none⟩) n n] W1 fun e W' => e = .returned (.bool true) ∧ J (pre ++ [x]) W' ∧ KeepIn nb D 4 W1 W') :
    ∀ (r : Nat) (pre : List Int) (dn : List (List Int)) (m : Nat) (W : World), pre.length + r = n → PreOk n pre → MaskOf n m pre → PermAt l n nb D pre W → D + 4 ≤ W.heap.size → J dn W → ∀ q,
      CallsIn Fence.wide q Try.prog 85 #[.int .u64 m, .pointer (some ⟨D + 2, 0, none⟩), .pointer (some ⟨nb, 0, none⟩), .pointer (some ⟨D, 0, none⟩), .pointer (some ⟨D + 3, 0, none⟩)] W
        fun e W' => e = .returned (.bool true) ∧ PermAt l n nb D pre W' ∧ D + 4 ≤ W'.heap.size ∧ J (dn ++ perms n r pre) W'
  | 0, pre, dn, m, W, hl, hp, hm, hA, hs, hj, q => by
    obtain ⟨z, hz⟩ : ∃ z, z = pre.length := ⟨_, rfl⟩
    obtain rfl : z = n := by omega
    have HY := Lib.hid (hY (q - 1) dn pre W hj ⟨hz.symm, hp, by have := hA.2.1; rw [← hz] at this; exact this, hs⟩)
    obtain ⟨h1, h2, h3, h4, h5⟩ := Lib.hid hA
    have HA := Lib.hid hA
    rw [← hz] at h3
    replace h3 := h3.cellI (i := 0) rfl
    clear hA hl hp hm hj hz h2
    refine callsIn_of_wp Try.func85 rfl trivial ?_ rfl
    simp only [Try.ntmps85, List.size_toArray, List.length_cons, List.length_nil, Nat.reduceAdd, Nat.reduceSub, Array.replicate_succ, Array.replicate_zero, List.push_toArray, List.append_toArray, List.nil_append, List.cons_append]
    obtain ⟨fn, tmps, assign, body, hy, hR⟩ := HY.out
    gi_wp2
    refine ⟨fun h => by simp [Fence.wide] at h, RoundIn.mono hR ?_⟩
    rintro e W3 ⟨rfl, hJ3, hk3⟩
    gi_wp2
    refine bodyPost_ret (results_tmp rfl _ _ _) rfl ?_
    exact ⟨rfl, HA.out.keep hk3, Nat.le_trans hs hk3.size, hJ3⟩
  | r + 1, pre, dn, m, W, hl, hp, hm, hA, hs, hj, q => by
    obtain ⟨z, hz⟩ : ∃ z, z = pre.length := ⟨_, rfl⟩
    have hzn : z < n := by omega
    have Hz := Lib.hid hz
    have HA := Lib.hid hA
    have Hp := Lib.hid hp
    have Hm := Lib.hid hm
    have HJ := Lib.hid hJ
    obtain ⟨f, hf⟩ : ∃ f : Nat → List (List Int), f = fun k : Nat => if (k : Int) ∈ pre then [] else perms n r (pre ++ [(k : Int)]) := ⟨_, rfl⟩
    have Hf := Lib.hid hf
    have Hj : Hid (J (dn ++ (List.range 0).flatMap f) W) := by show J _ _; simpa using hj
    have Hn : Hid (perms n (r + 1) pre = (List.range n).flatMap f) := by show _ = _; rw [hf]; rfl
    have Hr := Lib.hid (fun (k : Nat) (hk : k < n) (hmem : (k : Int) ∉ pre) dn W hA hs hj q => from_any n l nb D hn hnb J hJ hY r (pre ++ [(k : Int)]) dn (m ||| 2 ^ k) W (by simp; omega) (hp.snoc hk hmem) (hm.snoc hk hn) hA hs hj q)
    obtain ⟨h1, h2, h3, h4, h5⟩ := hA
    rw [← hz] at h3
    replace h3 := h3.cellI (i := 0) rfl
    have hm64 := hm.1
    have hzb : ((z : Int) == (n : Int)) = false := bF (by omega)
    clear hl hp hm hj hz h2 hf hJ hY h4 h5
    refine callsIn_of_wp Try.func85 rfl trivial ?_ rfl
    simp only [Try.ntmps85, List.size_toArray, List.length_cons, List.length_nil, Nat.reduceAdd, Nat.reduceSub, Array.replicate_succ, Array.replicate_zero, List.push_toArray, List.append_toArray, List.nil_append, List.cons_append]
    gi_wp2
    gi_loopw [16] (fun i wr => ∃ (k : Nat), k ≤ n ∧ i = .int .i64 k ∧ PermAt l n nb D pre wr ∧ D + 4 ≤ wr.heap.size ∧ J (dn ++ (List.range k).flatMap f) wr)
      (fun i _ => n - (intOf i).toNat)
    case atStart => exact ⟨0, Nat.zero_le _, rfl, HA.out, hs, Hj.out⟩
    case round =>
      obtain ⟨k, hk, rfl, hA, hsz, hjk⟩ := hrel
      by_cases hlt : k < n
      · have hbit := u64_bit ⟨m, hm64⟩ ⟨k, by omega⟩
        obtain ⟨hor, hor2, hwr⟩ := u64_or ⟨m, hm64⟩ ⟨k, by omega⟩
        dsimp only at hbit hor hor2 hwr
        rw [Hm.out.2 k hlt] at hbit
        have hAk := Lib.hid hA
        obtain ⟨g1, g2, g3, g4, g5⟩ := hA
        rw [← Hz.out] at g3
        have g3c := g3.cellI (i := 0) rfl
        by_cases hmem : (k : Int) ∈ pre
        · simp only [hmem, decide_true, if_true] at hbit
          have hfk : Hid ((List.range (k + 1)).flatMap f = (List.range k).flatMap f) := by
            show _ = _
            rw [List.range_succ, List.flatMap_append, Hf.out]
            simp [hmem]
          clear hmem g2 g3 g4 g5 hor hor2 hwr
          gi_wp2
          go_roundw
          case rel => exact ⟨k + 1, by omega, rfl, hAk.out, hsz, by rw [hfk.out]; exact hjk⟩
          case measure => simp [intOf]; omega
        · simp only [hmem, decide_false] at hbit
          have hfk : Hid ((List.range (k + 1)).flatMap f = (List.range k).flatMap f ++ perms n r (pre ++ [(k : Int)])) := by
            show _ = _
            rw [List.range_succ, List.flatMap_append, Hf.out]
            simp [hmem]
          have hrk := Lib.hid (Hr.out k hlt hmem)
          clear hmem
          rw [← Hz.out] at g2
          have ho1 : Own (wr.alloc (.cells #[.int .i64 (k : Int)] 3)) D (.slice (some ⟨D + 1, 0, none⟩) z n) pre := g2.alloc _
          have hc1 : (wr.alloc (.cells #[.int .i64 (k : Int)] 3)).cell? ⟨wr.heap.size, 0, none⟩ = some (.int .i64 k) := alloc1_cell rfl
          gi_wp2_with (refine appF _ rfl _ _ rfl D (D + 1) z n pre rfl ho1 Hz.out.symm _ k rfl hc1 (by omega) ?_; intro w' h1 h2; have r3 := (g3.alloc (Obj.cells #[.int .i64 (k : Int)] 3)).grown h2 (by simp); have r3c := r3.cellI (i := 0) rfl; have r3f := r3.frozen 0)
          obtain ⟨W2, hW2⟩ : ∃ W2, W2 = w'.setCell ⟨D + 2, 0, none⟩ (.slice (some ⟨D + 1, 0, none⟩) (z + 1) n) := ⟨_, rfl⟩
          rw [← hW2]
          have ht : TurnIn D 4 wr W2 := by
            rw [hW2]
            exact ((TurnIn.alloc _ _ _ _).trans (TurnIn.of_grown h2 (fun k e => by cases e; omega))).trans (TurnIn.setCell _ _ _ _ _ (by simp))
          have hA2 : PermAt l n nb D (pre ++ [(k : Int)]) W2 := by
            refine ⟨ht.cell (by simp; omega) g1, ?_, ?_, ?_, ?_⟩
            · rw [List.length_append, ← Hz.out, hW2]
              exact h1.same (Below.heap_setCell _ _ _ _ (by simp))
            · rw [List.length_append, ← Hz.out, hW2]
              exact r3.set 0 _
            · rw [hW2]
              exact (cell_far2 (by simp)).trans (((World.cell?_of_block (h2.block D (by simp; omega) (by simp))).trans (World.cell?_of_block (Below.heap_alloc wr _ D (by omega)))).trans g4)
            · rw [hW2]
              exact (cell_far2 (by simp)).trans (((World.cell?_of_block (h2.block (D + 3) (by simp; omega) (by simp))).trans (World.cell?_of_block (Below.heap_alloc wr _ (D + 3) (by omega)))).trans g5)
          have hs2 : D + 4 ≤ W2.heap.size := Nat.le_trans hsz ht.size
          have hj2 := HJ.out _ _ _ hjk ht
          have hq := Lib.hid (hrk.out _ W2.drew (hA2.keep (KeepIn.drew _ _ _ _)) hs2 (HJ.out _ _ _ hj2 (TurnIn.drew _ _ _)) q)
          have hld : W2.drew.cell? ⟨D + 3, 0, none⟩ = some (.func (.func 85) #[] #[.pointer (some ⟨D + 2, 0, none⟩), .pointer (some ⟨nb, 0, none⟩), .pointer (some ⟨D, 0, none⟩), .pointer (some ⟨D + 3, 0, none⟩)]) := hA2.2.2.2.2
          clear hW2 r3 r3c r3f h1 h2 ho1 hc1 hrk ht g1 g2 g3 g3c g4 g5 hA2 hj2 hjk
          refine region_wide (fun w' => w'.cell? ⟨D + 3, 0, none⟩ = some (.func (.func 85) #[] #[.pointer (some ⟨D + 2, 0, none⟩), .pointer (some ⟨nb, 0, none⟩), .pointer (some ⟨D, 0, none⟩), .pointer (some ⟨D + 3, 0, none⟩)])) (by kernel_rfl) (by kernel_rfl) (by rintro ⟨a, w, h⟩; have h2 := (show _ ∧ _ from h).1; cases h2) hld (fun hHeld => ?_)
          refine wpAnyH_take (i := 0) (v := (.func (.func 85) #[] #[.pointer (some ⟨D + 2, 0, none⟩), .pointer (some ⟨nb, 0, none⟩), .pointer (some ⟨D, 0, none⟩), .pointer (some ⟨D + 3, 0, none⟩)])) rfl (by kernel_rfl) (by kernel_rfl) (by kernel_rfl) (fun _ _ _ h => h) (Or.inl ⟨by kernel_rfl, fun w hSw => by (try dsimp only at hSw); go_simp⟩) hHeld ?_
          try simp only [Act.put, List.setIfInBounds_toArray, List.set_cons_zero, List.set_cons_succ]
          refine wpAnyH_take (i := 1) (v := .int .u64 m) rfl (by kernel_rfl) (by kernel_rfl) (by kernel_rfl) (fun _ _ _ h => h) (Or.inl ⟨by kernel_rfl, fun w hSw => by (try dsimp only at hSw); go_simp⟩) hHeld ?_
          try simp only [Act.put, List.setIfInBounds_toArray, List.set_cons_zero, List.set_cons_succ]
          refine wpAnyH_take (i := 2) (v := .int .i64 k) rfl (by kernel_rfl) (by kernel_rfl) (by kernel_rfl) (fun _ _ _ h => h) (Or.inl ⟨by kernel_rfl, fun w hSw => by (try dsimp only at hSw); go_simp⟩) hHeld ?_
          try simp only [Act.put, List.setIfInBounds_toArray, List.set_cons_zero, List.set_cons_succ]
          refine wpAnyH_take (i := 3) (v := .int .u64 (2 ^ k)) rfl (by kernel_rfl) (by kernel_rfl) (by kernel_rfl) (fun _ _ _ h => h) (Or.inl ⟨by kernel_rfl, fun w hSw => by (try dsimp only at hSw); go_simp⟩) hHeld ?_
          try simp only [Act.put, List.setIfInBounds_toArray, List.set_cons_zero, List.set_cons_succ]
          refine wpAnyH_take (i := 4) (v := .int .u64 ((m ||| 2 ^ k : Nat) : Int)) rfl (by kernel_rfl) (by kernel_rfl) (by kernel_rfl) (fun _ _ _ h => h) (Or.inl ⟨by kernel_rfl, fun w hSw => by (try dsimp only at hSw); go_simp⟩) hHeld ?_
          try simp only [Act.put, List.setIfInBounds_toArray, List.set_cons_zero, List.set_cons_succ]
          refine wpAnyH_ready (rs := [5]) (by kernel_rfl) (by simp) ?_
          refine AllReadyH.cons rfl (fun K hK => ?_) AllReadyH.nil
          go_simp
          refine (callsIn_wide.1 hq.out).mono ?_
          rintro e W3 ⟨rfl, hA3, hs3, hj3⟩
          have hA3' := Lib.hid hA3
          obtain ⟨g1, g2, g3, g4, g5⟩ := hA3
          show K _ W3
          refine hK.out _ _ g5 (fun hHeld => ?_)
          clear hK hq hld
          try simp only [Act.put, List.setIfInBounds_toArray, List.set_cons_zero, List.set_cons_succ]
          refine wpAnyH_take (i := 6) (v := .bool false) rfl (by kernel_rfl) (by kernel_rfl) (by kernel_rfl) (fun _ _ _ h => h) (Or.inl ⟨by kernel_rfl, fun w hSw => by (try dsimp only at hSw); go_simp⟩) hHeld ?_
          try simp only [Act.put, List.setIfInBounds_toArray, List.set_cons_zero, List.set_cons_succ]
          refine wpAnyH_done (by kernel_rfl) ?_ _
          try simp only [Act.put, List.setIfInBounds_toArray, List.set_cons_zero, List.set_cons_succ]
          rw [List.length_append, ← Hz.out] at g2 g3
          simp only [List.length_cons, List.length_nil, Nat.zero_add] at g2 g3
          have g3c := g3.cellI (i := 0) rfl
          have g3f := g3.frozen 0
          have hsub : IntKind.i64.wrap (((z + 1 : Nat) : Int) - 1) = z := by rw [show ((z + 1 : Nat) : Int) - 1 = z by omega]; exact IntWalk.i64_in _ (by omega)
          gi_wp2
          go_roundw
          case rel =>
            have ht : TurnIn D 4 W3 (W3.setCell ⟨D + 2, 0, none⟩ (.slice (some ⟨D + 1, 0, none⟩) z n)) := TurnIn.setCell _ _ _ _ _ (by simp)
            refine ⟨k + 1, by omega, by go_num, ⟨ht.cell (by simp; omega) g1, ?_, ?_, (cell_far2 (by simp)).trans g4, (cell_far2 (by simp)).trans g5⟩, Nat.le_trans hs3 ht.size, ?_⟩
            · rw [← Hz.out]
              exact (Own.init g2 Hz.out.symm).same (Below.heap_setCell _ _ _ _ (by simp))
            · rw [← Hz.out]
              exact g3.set 0 _
            · rw [hfk.out, ← List.append_assoc]
              exact HJ.out _ _ _ hj3 ht
          case measure => simp [intOf]; omega
      · obtain rfl : k = n := by omega
        obtain ⟨g1, -, -, -, -⟩ := Lib.hid hA
        gi_wp2
        refine bodyPost_ret (results_tmp rfl _ _ _) rfl ?_
        exact ⟨rfl, hA, hsz, by rw [Hn.out]; exact hjk⟩
theorem perms_any (n : Nat) (w : World) :
    Calls Try.prog 63 #[.int .i64 n] w fun e w' => e = .returned (.func (.func 84) #[] #[.pointer (some ⟨w.heap.size, 0, none⟩)]) ∧ w' = w.alloc (.cells #[.int .i64 n] 3) := by
  go_enter Try.func63, Try.ntmps63
  go_wp2_with fail
  go_ret
  exact ⟨rfl, rfl⟩
set_option maxRecDepth 100000 in
set_option maxHeartbeats 2000000 in
theorem perm_iter (n nb : Nat) (hn : n ≤ 6) (w : World) (hnb : nb < w.heap.size) (hc : w.cell? ⟨nb, 0, none⟩ = some (.int .i64 n)) :
    SeqTurn Try.prog 84 #[.pointer (some ⟨nb, 0, none⟩)] (fun D (_ : List Int) => #[.slice (some ⟨D + 1, 0, none⟩) n n]) nb 4 (fun D x W => HdP n D x W) (fun xs => xs = perms n n []) w := by
  intro q l J W hW hJ hY h0
  have hnb' : nb < W.heap.size := Nat.lt_of_lt_of_le hnb hW.size
  have hcW : W.cell? ⟨nb, 0, none⟩ = some (.int .i64 n) := (hW.cell (p := ⟨nb, 0, none⟩) hnb).trans hc
  have HJ := Lib.hid hJ
  have HF := Lib.hid (from_any n l nb W.heap.size hn hnb' J hJ hY n [])
  clear hW hc hnb hJ hY
  have Hn := Lib.hid hn
  have hmk := mk_cap (n : Int) n rfl (by omega) (W.alloc (.cells #[.func (.yield l) #[] #[]] 81))
  obtain ⟨W4, hW4⟩ : ∃ W4, W4 = ((((W.alloc (.cells #[.func (.yield l) #[] #[]] 81)).alloc (.cells (madeCells #[.int .i64 0] n) 3)).alloc (.cells #[.slice (some ⟨W.heap.size + 1, 0, none⟩) 0 n] 33)).alloc (.cells #[.func (.func 85) #[] #[.pointer (some ⟨W.heap.size + 2, 0, none⟩), .pointer (some ⟨nb, 0, none⟩), .pointer (some ⟨W.heap.size, 0, none⟩), .pointer (some ⟨W.heap.size + 3, 0, none⟩)]] 93)) := ⟨_, rfl⟩
  have r4 : Row W4 (W.heap.size + 3) 93 [fromV nb W.heap.size] := by rw [hW4]; exact Row.newS _ _ _ (by simp) rfl
  have r3 : Row W4 (W.heap.size + 2) 33 [.slice (some ⟨W.heap.size + 1, 0, none⟩) 0 n] := by rw [hW4]; exact (Row.newS _ _ _ (by simp) rfl).alloc _
  have r1 : Row W4 W.heap.size 81 [.func (.yield l) #[] #[]] := by rw [hW4]; exact (((Row.newS _ _ _ rfl rfl).alloc _).alloc _).alloc _
  have ow : Own W4 W.heap.size (.slice (some ⟨W.heap.size + 1, 0, none⟩) 0 n) [] := by
    have := Own.made0 (W.alloc (.cells #[.func (.yield l) #[] #[]] 81)) W.heap.size n (by simp) (by omega)
    rw [World.size_alloc] at this
    rw [hW4]; exact (this.alloc _).alloc _
  have hs4 : W4.heap.size = W.heap.size + 4 := by rw [hW4]; simp
  have ht : TurnIn W.heap.size 4 W W4 := by
    rw [hW4]; exact (((TurnIn.alloc _ _ _ _).trans (TurnIn.alloc _ _ _ _)).trans (TurnIn.alloc _ _ _ _)).trans (TurnIn.alloc _ _ _ _)
  have hA : PermAt l n nb W.heap.size [] W4 := ⟨ht.cell (by simp; omega) hcW, ow, r3, r1.cellI rfl, r4.cellI rfl⟩
  have hq := Lib.hid (HF.out [] 0 W4 (by simp) ⟨by simp, by simp⟩ ⟨by omega, fun k _ => by simp⟩ hA (by omega) (HJ.out _ _ _ h0 ht))
  have hl5 := r4.cellI (i := 0) rfl
  unfold fromV at hl5
  clear HF HJ hA ow r1 r3 r4 ht h0
  refine callsIn_of_wp Try.func84 rfl trivial ?_ rfl
  simp only [Try.ntmps84, List.size_toArray, List.length_cons, List.length_nil, Nat.reduceAdd, Nat.reduceSub, Array.replicate_succ, Array.replicate_zero, List.push_toArray, List.append_toArray, List.nil_append, List.cons_append]
  gi_wp2
  try simp only [Nat.add_assoc, Nat.reduceAdd]
  rw [← hW4]
  clear hW4 hmk
  refine ⟨trivial, fun h => by simp [Fence.wide] at h, (hq.out _).mono ?_⟩
  rintro e W5 ⟨rfl, hA5, hs5, hj5⟩
  gi_wp2
  go_end0
  exact ⟨⟨_, rfl⟩, by simpa using hj5⟩
end Go.Proofs.Ytglncadfmomamaa
