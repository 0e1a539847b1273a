/- Helpers for the program's SignalRead: results in cells, appends of a byte in a round, what lies between two rounds. -/
import Derived.Test.YtpldkfbglfcidaaDoorGr
import Derived.Test.YtpldkfbglfcidaaDoorSq
import Derived.Test.YtpldkfbglfcidaaDoorSr
import Derived.ArgAppend
namespace Go.Proofs.YtpldkfbglfcidaaDoor
set_option linter.unusedVariables false
set_option linter.unusedSimpArgs false
open Go.RowKit
theorem loadVar_cell {P : Program} {t : TypeId} {a : Addr} {x : Value} {w : World} (hag : (isAgg t).run P w = .ok false w) (hc : w.cell? a = some x) : (loadVar t a).run P w = .ok x w := by
  simp [loadVar, Sem.run_bind, Result.andThen, hag, hc]
theorem results_cell2 {fn : Func} {p q : Tmp} {t u : TypeId} (h : fn.results = #[.cell p t, .cell q u]) (tmps : Array Value) (P : Program) (w : World) (a b : Addr) (x y : Value) (hp : tmps.getD p undef = .pointer (some a)) (hq : tmps.getD q undef = .pointer (some b))
    (hx : (loadVar t a).run P w = .ok x w) (hy : (loadVar u b).run P w = .ok y w) : (results fn tmps).run P w = .ok (.tuple #[x, y]) w := by
  have hp' : tmps[p]?.getD undef = .pointer (some a) := by simpa using hp
  have hq' : tmps[q]?.getD undef = .pointer (some b) := by simpa using hq
  simp [results, h, hp', hq', asAddr, hx, hy, Sem.run_bind, Result.andThen]
/-- append of one byte to an own slice: in place, or in a new block. -/
theorem appUF {F : Fence} {q : Nat} (w : World) {ops : Array Oper} {rest : List Oper} {o : Oper} {a : Act} {Q : Exit → Act → World → Prop} (hgd : o.guard = none) (s y : Operand)
    (ho : o.op = .call { callee := .builtin .append, args := #[s, y], argTypes := #[22, 22] })
    (B g n c : Nat) (l : List UInt8) (hs : a.eval s = .slice (some ⟨g, 0, none⟩) n c) (hown : OwnU w B g n c l)
    (ad : Addr) (x : UInt8) (hx : a.eval y = .slice (some ad) 1 1) (hc : w.cell? ad = some (.int .u8 (x.toNat : Int))) (h63 : n ≤ 2000000) (hbase : B ≤ w.heap.size)
    (h : ∀ g' c' w', OwnU w' B g' (n + 1) c' (l ++ [x]) → w.grownBy w' (some g) → (g' = g ∨ w.heap.size ≤ g') → wpListIn F q Tryd.prog ops Q rest (a.put o.dst (.slice (some ⟨g', 0, none⟩) (n + 1) c')) w') : wpListIn F q Tryd.prog ops Q (o :: rest) a w := by
  obtain ⟨i0, hi, hz0, hz1, hz2⟩ := info_parts byteInfo
  have hnews : ∀ j u, [Value.int .u8 (x.toNat : Int)][j]? = some u → w.cell? (ad.add j) = some u := by
    intro j u hj
    cases j with
    | zero =>
      simp at hj
      subst hj
      have e : ad.add 0 = ad := by unfold Addr.add; simp
      rw [e]; exact hc
    | succ j => simp at hj
  have h1c : ∀ u ∈ [Value.int .u8 (x.toNat : Int)], u.oneCell' = true := by intro u hu; simp at hu; subst hu; rfl
  have el : u8s l ++ [.int .u8 (x.toNat : Int)] = u8s (l ++ [x]) := by simp [u8s]
  have elen : n + 1 = (l ++ [x]).length := by rw [List.length_append, hown.2]; rfl
  by_cases hroom : n + 1 ≤ c
  · refine wpListIn_append_fits w hgd s y 22 ho B 5 i0 1 Tryd.underlying22 hi hz1 g n c (u8s l) hs hown.1 ad 1 1 [.int .u8 (x.toNat : Int)] hx rfl hnews h1c hroom ?_
    intro w' h1 h2
    rw [el] at h1
    exact h g c w' ⟨h1, elen⟩ h2 (.inl rfl)
  · refine wpListIn_plain hgd fun K hK' => ?_
    obtain ⟨v', w', hrun, r1, r2⟩ := run_append_arg_grows (P := Tryd.prog) w 22 o.type 5 i0 (.int .u8 0) 1 1 Tryd.underlying22 hi hz0 hz1 hz2 rfl (by decide) ⟨g, 0, none⟩ n c (u8s l) (by rw [u8s_length, hown.2]; omega)
      (fun j u hj => by
        have hjl : j < l.length := by
          rcases Nat.lt_or_ge j l.length with h1 | h1
          · exact h1
          · rw [List.getElem?_eq_none (by rw [u8s_length]; exact h1)] at hj; cases hj
        have := hown.cell j hjl
        have e : (⟨g, 0, none⟩ : Addr).add j = ⟨g, j, none⟩ := by
          unfold Addr.add; split
          · rename_i h; subst h; rfl
          · simp
        rw [e, this]
        simp [u8s, List.getElem?_eq_getElem hjl] at hj
        rw [hj]) ad 1 1 [.int .u8 (x.toNat : Int)] rfl hnews (by omega) (by unfold maxLen; omega) (by omega)
    rw [el] at r1
    unfold Oper.wpIn
    refine ⟨?_, ?_⟩
    · simp [Oper.about, ho, resolve, Target.leads, Sem.run_pure]
    · rw [Oper.semAt_plain F _ _ (by rw [ho]; intro c hc'; cases hc')]
      simp [execOp, ho, resolve, invoke, builtin, hs, hx, hrun, Result.andThen]
      have r1' := r1
      rcases r1'.2 with ⟨_, h0⟩ | ⟨g', cap, cur, e2, hge, hrest⟩
      · omega
      · subst e2
        refine hK' _ _ (h g' cap w' ⟨⟨r1.1, .inr ⟨g', cap, cur, rfl, Nat.le_trans hbase hge, hrest⟩⟩, elen⟩ ⟨r2.os, r2.tape, r2.output, r2.size, fun k hk _ => r2.block k hk (by simp)⟩ (.inr hge))
theorem OwnU.same {A W : World} {B g n c : Nat} {l : List UInt8} (ho : OwnU A B g n c l) (h : W.heap[g]? = A.heap[g]?) : OwnU W B g n c l := by
  obtain ⟨⟨h1, h2⟩, h3⟩ := ho
  refine ⟨⟨h1, ?_⟩, h3⟩
  rcases h2 with ⟨e, _⟩ | ⟨g', cap', cur, e, a1, a2, a3⟩
  · cases e
  · cases e
    exact .inr ⟨g, c, cur, rfl, a1, h.trans a2, a3⟩
theorem Row.box {nb z D c b : Nat} {t : TypeId} {l : List Value} {A B : World} (h : Row A b t l) (k : TurnBox nb z D c A B) (hn : ¬ (nb ≤ b ∧ b < nb + z)) (hp : ¬ (D ≤ b ∧ b < D + c)) : Row B b t l := (k.block b h.lt hn hp).trans h
/-- Between two rounds of SignalRead: the tree was grown in w2, the boxes lie from bt on. -/
def RdI (w2 : World) (B0 bt : Nat) (v : Option Addr) (pre : List ByteArray) (W : World) : Prop :=
  Below bt w2 W ∧ Row W bt 45 [.pointer v] ∧ (∃ g n c, Row W (bt + 2) 22 [.slice (some ⟨g, 0, none⟩) n c] ∧ OwnU W (B0 + 2) g n c (txtTo (pcs pre)) ∧ (g = bt + 1 ∨ bt + 8 ≤ g)) ∧ okTo (pcs pre) = true ∧ bt + 6 ≤ W.heap.size
/-- A round has said 'no more'. -/
def RdX (w : World) (B0 bt : Nat) (pre : List ByteArray) (W : World) : Prop :=
  Below B0 w W ∧ Row W B0 9 [.string ⟨#[]⟩] ∧ Row W (B0 + 1) 4 [.bool false] ∧ okTo (pcs pre) = false ∧ bt + 6 ≤ W.heap.size
theorem RdI.turn {w2 : World} {B0 bt : Nat} {v : Option Addr} {pre : List ByteArray} {A B : World} (h : RdI w2 B0 bt v pre A) (k : TurnBox (bt + 3) 3 (bt + 6) 2 A B) (hb : bt ≤ w2.heap.size) : RdI w2 B0 bt v pre B := by
  obtain ⟨h1, h2, ⟨g, n, c, h3, h4, h5⟩, h6, h7⟩ := h
  refine ⟨k.below h1 hb (by omega) (by omega), h2.box k (by omega) (by omega), ⟨g, n, c, h3.box k (by omega) (by omega), h4.same (k.block g h4.block.2 (by omega) (by omega)), h5⟩, h6, Nat.le_trans h7 k.size⟩
theorem RdX.turn {w : World} {B0 bt : Nat} {pre : List ByteArray} {A B : World} (h : RdX w B0 bt pre A) (k : TurnBox (bt + 3) 3 (bt + 6) 2 A B) (hb : B0 ≤ w.heap.size) (hB : B0 + 1 < bt) : RdX w B0 bt pre B := by
  obtain ⟨h1, h2, h3, h4, h5⟩ := h
  exact ⟨k.below h1 hb (by omega) (by omega), h2.box k (by omega) (by omega), h3.box k (by omega) (by omega), h4, Nat.le_trans h5 k.size⟩
end Go.Proofs.YtpldkfbglfcidaaDoor
