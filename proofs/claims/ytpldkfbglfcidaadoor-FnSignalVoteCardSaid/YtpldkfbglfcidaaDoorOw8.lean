/- Slices of bytes of the call's own; texts that grow byte by byte. -/
import Derived.Test.YtpldkfbglfcidaaDoorSm
import Derived.Laws.IdiomStrings
namespace Go.Proofs.YtpldkfbglfcidaaDoor
set_option linter.unusedVariables false
set_option linter.unusedSimpArgs false
open Go.RowKit
theorem byteInfo : (Tryd.prog.info? 5).map (fun i => (i.zero, i.size, i.bytes)) = some (some (.int .u8 0), 1, 1) := by kernel_rfl
def u8s (l : List UInt8) : List Value := l.map fun b => .int .u8 (b.toNat : Int)
theorem u8s_length (l : List UInt8) : (u8s l).length = l.length := by simp [u8s]
/-- A slice of bytes of the call's own that reads as l, in a block from B on. -/
def OwnU (w : World) (B g n c : Nat) (l : List UInt8) : Prop := w.ownsRow B 5 1 (.slice (some ⟨g, 0, none⟩) n c) n (u8s l) ∧ n = l.length
section
variable {w w' : World} {B g n c : Nat} {l : List UInt8}
theorem OwnU.block (h : OwnU w B g n c l) : B ≤ g ∧ g < w.heap.size := World.ownsRow.lt h.1 g rfl
theorem OwnU.kept {row : Option Nat} (h : OwnU w B g n c l) (hg : w.grownBy w' row) (hne : some g ≠ row) : OwnU w' B g n c l :=
  ⟨World.ownsRow.kept h.1 hg (.inr (fun e => hne e)), h.2⟩
theorem OwnU.below (h : OwnU w B g n c l) (hb : Below w.heap.size w w') : OwnU w' B g n c l :=
  h.kept (row := none) ⟨hb.os, hb.tape, hb.output, hb.size, fun k hk _ => hb.block k hk⟩ (by simp)
theorem OwnU.alloc (h : OwnU w B g n c l) (o : Obj) : OwnU (w.alloc o) B g n c l := ⟨World.ownsRow.alloc h.1 o, h.2⟩
theorem OwnU.drewN (h : OwnU w B g n c l) (k : Nat) : OwnU (w.drewN k) B g n c l := h
theorem OwnU.cell (h : OwnU w B g n c l) (j : Nat) (hj : j < l.length) : w.cell? ⟨g, j, none⟩ = some (.int .u8 (l[j].toNat : Int)) := by
  have h1 := h.1
  have e : (u8s l)[j]? = some (.int .u8 (l[j].toNat : Int)) := by simp [u8s, List.getElem?_eq_getElem hj]
  rcases h1.2 with ⟨e2, _⟩ | ⟨g2, cap, cur, e2, _, hr, _, _, _, htk⟩
  · cases e2
  · injection e2 with e2 _ _
    injection e2 with e2
    injection e2 with e2
    subst e2
    rw [cell_of_row w g j _ _ _ hr]
    rw [← htk] at e
    rw [List.getElem?_take] at e
    split at e
    · simpa using e
    · cases e
theorem OwnU.form (h : OwnU w B g n c l) : n ≤ c ∧ c ≤ maxLen := by
  rcases h.1.2 with ⟨e2, _⟩ | ⟨g2, cap, cur, e2, _, hr, h1, h2, _⟩
  · cases e2
  · injection e2 with _ _ e3
    subst e3
    exact ⟨h1, h2⟩
end
/-- make([]byte, 0, n), as the walk spells it. -/
theorem mk_capU (x : Int) (n : Nat) (hx : x = n) (hn : n ≤ 100000000) (w : World) :
    (Instr.makeSlice 22 (.int .i64 0) (.int .i64 x)).run Tryd.prog w = .ok (.slice (some ⟨w.heap.size, 0, none⟩) 0 n) (w.alloc (.cells (madeCells #[.int .u8 0] n) 5)) := by
  subst hx
  obtain ⟨i, hi, hz, hs, hb⟩ := info_parts byteInfo
  have hr := run_make (P := Tryd.prog) w 22 5 i (.int .u8 0) Tryd.underlying22 hi hz .i64 .i64 0 n (by omega) (by omega) (by rw [hb]; omega) (by omega)
  simp only [Int.toNat_natCast, Int.toNat_zero, hs, Nat.mul_one] at hr
  exact hr
theorem OwnU.made0 (w : World) (B n : Nat) (hB : B ≤ w.heap.size) (hn : n ≤ 100000000) : OwnU (w.alloc (.cells (madeCells #[.int .u8 0] n) 5)) B w.heap.size 0 n [] :=
  ⟨⟨by simp [u8s], .inr ⟨w.heap.size, n, madeCells #[.int .u8 0] n, rfl, hB, heap_alloc_new w _, by simp, by unfold maxLen; omega, by rw [← Array.length_toList, madeCells_toList']; simp, by simp [u8s]⟩⟩, rfl⟩
theorem OwnU.lit0 (w : World) (B : Nat) (hB : B ≤ w.heap.size) : OwnU (w.alloc (.cells #[] 5)) B w.heap.size 0 0 [] :=
  ⟨⟨by simp [u8s], .inr ⟨w.heap.size, 0, #[], rfl, hB, heap_alloc_new w _, by simp, by unfold maxLen; omega, by simp, by simp [u8s]⟩⟩, rfl⟩
theorem appU (w : World) {ops : Array Oper} {rest : List Oper} {o : Oper} {a : Act} {Q : Exit → Act → World → Prop} (hgd : o.guard = none) (s y : Operand)
    (ho : o.op = .call { callee := .builtin .append, args := #[s, y], argTypes := #[22, 22] })
    (B g n c : Nat) (l : List UInt8) (hs : a.eval s = .slice (some ⟨g, 0, none⟩) n c) (hown : OwnU w B g n c l)
    (ad : Addr) (x : UInt8) (hx : a.eval y = .slice (some ad) 1 1) (hc : w.cell? ad = some (.int .u8 (x.toNat : Int))) (h63 : n ≤ 2000000) (hbase : B ≤ w.heap.size)
    (h : ∀ g' c' w', OwnU w' B g' (n + 1) c' (l ++ [x]) → w.grownBy w' (some g) → wpList Tryd.prog ops Q rest (a.put o.dst (.slice (some ⟨g', 0, none⟩) (n + 1) c')) w') : wpList Tryd.prog ops Q (o :: rest) a w := by
  obtain ⟨i0, hi, hz0, hz1, hz2⟩ := info_parts byteInfo
  refine wpList_append_own w hgd s y 22 ho B 5 i0 (.int .u8 0) 1 1 Tryd.underlying22 hi hz0 hz1 hz2 rfl (by decide) _ n (u8s l) hs hown.1 ad 1 1 [.int .u8 (x.toNat : Int)] hx rfl ?_ ?_ ?_ ?_ hbase ?_
  · intro j u hj
    cases j with
    | zero =>
      simp at hj
      subst hj
      have e : ad.add 0 = ad := by unfold Addr.add; simp
      rw [e]; exact hc
    | succ j => simp at hj
  · intro u hu; simp at hu; subst hu; rfl
  · unfold maxLen; omega
  · omega
  · intro v' w' h1 h2 _
    have e : u8s l ++ [.int .u8 (x.toNat : Int)] = u8s (l ++ [x]) := by simp [u8s]
    rw [e] at h1
    rcases h1.2 with ⟨_, h0⟩ | ⟨g', cap, cur, e2, _⟩
    · omega
    · subst e2
      exact h g' cap w' ⟨h1, by rw [List.length_append, hown.2]; rfl⟩ h2
theorem str_snoc (l : List UInt8) (s : ByteArray) (k : Nat) (h : k < s.size) : (⟨l.toArray⟩ : ByteArray) ++ s.extract k (k + 1) = ⟨(l ++ [s[k]]).toArray⟩ := by
  apply ByteArray.ext
  rw [ByteArray.data_append, ByteArray.data_extract]
  apply Array.ext'
  simp only [Array.toList_append, Array.toList_extract, List.extract_eq_take_drop]
  congr 1
  have h2 : k < s.data.toList.length := by simpa using h
  rw [Nat.add_sub_cancel_left, List.drop_eq_getElem_cons h2]
  rfl
theorem str_one (l : List UInt8) (c : UInt8) : (⟨l.toArray⟩ : ByteArray) ++ ⟨#[c]⟩ = ⟨(l ++ [c]).toArray⟩ := by
  apply ByteArray.ext
  rw [ByteArray.data_append]
  simp
/-- string(b), b of the call's own. -/
theorem OwnU.text {w : World} {B g n c : Nat} {l : List UInt8} (h : OwnU w B g n c l) :
    (convert 22 9 (.slice (some ⟨g, 0, none⟩) n c)).run Tryd.prog w = .ok (.string ⟨l.toArray⟩) w := by
  have hn := h.2
  have := run_convert_bytes_back (P := Tryd.prog) w 22 9 5 ⟨g, 0, none⟩ c l Tryd.underlying22 Tryd.underlying5 Tryd.underlying9 (fun j hj => by
    have e : (⟨g, 0, none⟩ : Addr).add j = ⟨g, j, none⟩ := by
      unfold Addr.add; split
      · rename_i h; subst h; rfl
      · simp
    rw [e]; exact h.cell j hj)
  rw [hn]; exact this
end Go.Proofs.YtpldkfbglfcidaaDoor
