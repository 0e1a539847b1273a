/- Memory words: a block of the call's own that is known whole. -/
import Derived.WalkKit
import Derived.Lib.Hide
import Derived.Laws.Rows
import Derived.Laws.OwnMore
import Derived.Deep.OwnRows
import Derived.Deep.Draws
import Derived.Tactics
namespace Go.Proofs.YtpldkfbglfcidaaDoor
set_option linter.unusedVariables false
set_option linter.unusedSimpArgs false
open Go.RowKit

theorem bF {x c : Int} (h : x ≠ c) : (x == c) = false := by simpa using h
theorem bT {x c : Int} (h : x = c) : (x == c) = true := by simpa using h
theorem nF {x c : Int} (h : x = c) : (x != c) = false := by simpa using h
theorem nT {x c : Int} (h : x ≠ c) : (x != c) = true := by simpa using h
/-- Block g holds just the cells l, of element type t, none frozen. -/
def Row (w : World) (g : Nat) (t : TypeId) (l : List Value) : Prop := w.heap[g]? = some (.cells ⟨l⟩ t (0, 0))

section
variable {w w' : World} {g : Nat} {t : TypeId} {l : List Value}
theorem Row.lt (h : Row w g t l) : g < w.heap.size := by
  unfold Row at h
  rcases Nat.lt_or_ge g w.heap.size with h1 | h1
  · exact h1
  · rw [Array.getElem?_eq_none h1] at h; cases h
theorem Row.cell (h : Row w g t l) (i : Nat) : w.cell? ⟨g, i, none⟩ = l[i]? := by
  rw [cell_of_row w g i _ t (0, 0) h]; simp
theorem Row.cellI (h : Row w g t l) {i : Nat} {v : Value} (hv : l[i]? = some v) : w.cell? ⟨g, i, none⟩ = some v := (h.cell i).trans hv
theorem Row.frozen (h : Row w g t l) (i : Nat) : w.frozen? ⟨g, i, none⟩ = false := by
  unfold Row at h; simp [World.frozen?, h]
theorem Row.new (w : World) (t : TypeId) (l : List Value) : Row (w.alloc (.cells ⟨l⟩ t (0, 0))) w.heap.size t l := by
  unfold Row; exact heap_alloc_new w _
theorem Row.newA (w : World) (t : TypeId) (c : Array Value) : Row (w.alloc (.cells c t (0, 0))) w.heap.size t c.toList := by
  unfold Row; exact heap_alloc_new w _
theorem Row.newS (w : World) (t : TypeId) (c : Array Value) {g : Nat} {l : List Value} (hg : g = w.heap.size) (hl : c.toList = l) : Row (w.alloc (.cells c t (0, 0))) g t l := by
  subst hg hl; exact Row.newA w t c
theorem Row.drew (h : Row w g t l) : Row w.drew g t l := h
theorem Row.drewN (h : Row w g t l) (n : Nat) : Row (w.drewN n) g t l := h
theorem Row.alloc (h : Row w g t l) (o : Obj) : Row (w.alloc o) g t l := (Below.heap_alloc w o g h.lt).trans h
theorem Row.far (h : Row w g t l) {p : Addr} (hp : g ≠ p.block) (u : Value) : Row (w.setCell p u) g t l := (Below.heap_setCell w p u g hp).trans h
theorem Row.set (h : Row w g t l) (i : Nat) (u : Value) : Row (w.setCell ⟨g, i, none⟩ u) g t (l.set i u) := by
  unfold Row at h ⊢
  simp [World.setCell, Array.getElem?_modify, h]
theorem Row.below {B : Nat} (h : Row w g t l) (hb : Below B w w') (hg : g < B) : Row w' g t l := (hb.block g hg).trans h
theorem Row.grown {row : Option Nat} (h : Row w g t l) (hb : w.grownBy w' row) (hg : some g ≠ row) : Row w' g t l := (hb.block g h.lt hg).trans h
theorem Row.eq (h : Row w g t l) {l' : List Value} (e : l = l') : Row w g t l' := e ▸ h
end

theorem madeCells_toList' (v : Value) (n : Nat) : (madeCells #[v] n).toList = List.replicate n v := toList_madeCells_one v n
/-- make([]int, n) as the walk spells it. -/
theorem mk_row {P : Program} (t e : TypeId) (z : Value) (bytes : Nat) (ht : P.underlying t = some (.slice e)) (hinfo : (P.info? e).map (fun i => (i.zero, i.size, i.bytes)) = some (some z, 1, bytes)) (hz1 : z.cells = #[z])
    (x : Int) (n : Nat) (hx : x = n) (hbytes : bytes * n ≤ 281474976710656) (h63 : n ≤ 9223372036854775807) (w : World) :
    (Instr.makeSlice t (.int .i64 x) (.int .i64 x)).run P w = .ok (.slice (some ⟨w.heap.size, 0, none⟩) n n) (w.alloc (.cells (madeCells #[z] n) e)) := by
  subst hx; exact run_make_row' t e z bytes ht hinfo hz1 .i64 .i64 n hbytes h63 w
theorem made_at (v : Value) (n i : Nat) (h : i < n) : (madeCells #[v] n)[i]? = some v := by
  have := madeCells_toList' v n
  rw [← Array.getElem?_toList, this]; simp [h]
/-- Natural numbers as cells of type int. -/
def nats (l : List Nat) : List Value := l.map fun x : Nat => Value.int .i64 (x : Int)
theorem nats_length (l : List Nat) : (nats l).length = l.length := by simp [nats]
theorem nats_get (l : List Nat) (i : Nat) (h : i < l.length) : (nats l)[i]? = some (.int .i64 ((l.getD i 0 : Nat) : Int)) := by
  simp [nats, List.getD, List.getElem?_eq_getElem h]
theorem nats_set (l : List Nat) (i x : Nat) : (nats l).set i (.int .i64 (x : Int)) = nats (l.set i x) := by
  simp [nats, List.map_set]
theorem nats_zero (n : Nat) : List.replicate n (Value.int .i64 0) = nats (List.replicate n 0) := by simp [nats]
theorem nats_at {w : World} {g : Nat} {t : TypeId} {l : List Nat} (h : Row w g t (nats l)) (i : Nat) (hi : i < l.length) : w.cell? ⟨g, i, none⟩ = some (.int .i64 ((l.getD i 0 : Nat) : Int)) :=
  h.cellI (nats_get l i hi)
theorem nats_setI (l : List Nat) (i x : Nat) (y : Int) (h : y = x) : (nats l).set i (.int .i64 y) = nats (l.set i x) := by
  subst h; exact nats_set l i x

/-- A result that lies in a block of the call's own, and a second one. -/
theorem ret_row_tmp {P : Program} {fn : Func} {R : Ending → World → Prop} {a : Act} {w : World} {p u : Tmp} {ty : TypeId} (h : fn.results = #[.cell p ty, .tmp u])
    (g : Nat) (t : TypeId) (l : List Value) (d : TypeDesc) (hp : a.tmps.getD p undef = .pointer (some ⟨g, 0, none⟩)) (hg : Row w g t l) (hu : P.underlying ty = some d)
    (hd : (match d with | .struct _ | .array _ _ => true | _ => false) = true) (hi : (P.info? ty).map (·.size) = some l.length) (hdef : a.defers = [])
    (hR : R (.returned (.tuple #[.agg ⟨l⟩, a.tmps.getD u undef])) w) : bodyPost P fn R .ret a w := by
  refine bodyPost_ret (v := .tuple #[.agg ⟨l⟩, a.tmps.getD u undef]) ?_ hdef hR
  have hp' : a.tmps[p]?.getD undef = .pointer (some ⟨g, 0, none⟩) := by simpa using hp
  simp [results, h, hp', asAddr, run_loadVar_row w g t ty ⟨l⟩ (0, 0) d hg hu hd (by simpa using hi)]
/-- A result that lies in a block of the call's own. -/
theorem ret_row {P : Program} {fn : Func} {R : Ending → World → Prop} {a : Act} {w : World} {p : Tmp} {ty : TypeId} (h : fn.results = #[.cell p ty])
    (g : Nat) (t : TypeId) (l : List Value) (d : TypeDesc) (hp : a.tmps.getD p undef = .pointer (some ⟨g, 0, none⟩)) (hg : Row w g t l) (hu : P.underlying ty = some d)
    (hd : (match d with | .struct _ | .array _ _ => true | _ => false) = true) (hi : (P.info? ty).map (·.size) = some l.length) (hdef : a.defers = [])
    (hR : R (.returned (.agg ⟨l⟩)) w) : bodyPost P fn R .ret a w :=
  bodyPost_ret (v := .agg ⟨l⟩) (results_cell_row h _ w g t ⟨l⟩ (0, 0) d hp hg hu hd (by simpa using hi)) hdef hR
/-- make([]T, n), T of several cells, as the walk spells it. -/
theorem mk_rows {P : Program} (t e : TypeId) (z : Value) (size bytes : Nat) (ht : P.underlying t = some (.slice e)) (hinfo : (P.info? e).map (fun i => (i.zero, i.size, i.bytes)) = some (some z, size, bytes))
    (x : Int) (n : Nat) (hx : x = n) (hbytes : bytes * n ≤ 281474976710656) (h63 : n ≤ 9223372036854775807) (w : World) :
    (Instr.makeSlice t (.int .i64 x) (.int .i64 x)).run P w = .ok (.slice (some ⟨w.heap.size, 0, none⟩) n n) (w.alloc (.cells (madeCells z.cells (n * size)) e)) := by
  subst hx
  obtain ⟨i, hi, hz, hs, hb⟩ := info_parts hinfo
  subst hs hb
  have hb : (i.bytes : Int) * (n : Int) ≤ 281474976710656 := by
    have h : ((i.bytes * n : Nat) : Int) ≤ 281474976710656 := by omega
    rwa [Int.natCast_mul] at h
  have hr := run_make (P := P) w t e i z ht hi hz .i64 .i64 n n (by omega) (by omega) hb (by omega)
  simp only [Int.toNat_natCast] at hr
  exact hr
theorem below_drewN {B : Nat} {a w : World} (h : Below B a w) (n : Nat) : Below B a (w.drewN n) := ⟨h.os, h.tape, h.output, h.size, h.block⟩
theorem ret_int {k : IntKind} {a b : Int} (h : a = b) : Ending.returned (.int k a) = Ending.returned (.int k b) := by rw [h]
theorem ret_bool {a b : Bool} (h : a = b) : Ending.returned (.bool a) = Ending.returned (.bool b) := by rw [h]
theorem ret_str {a b : List UInt8} (h : a = b) : Ending.returned (.string ⟨a.toArray⟩) = Ending.returned (.string ⟨b.toArray⟩) := by rw [h]
theorem grown_set (w : World) (g i : Nat) (u : Value) : w.grownBy (w.setCell ⟨g, i, none⟩ u) (some g) :=
  ⟨rfl, rfl, rfl, by simp [World.setCell], fun k _ hne => Below.heap_setCell w ⟨g, i, none⟩ u k (fun e => hne (by rw [e]))⟩
theorem grown_alloc {a w : World} {row : Option Nat} (h : a.grownBy w row) (o : Obj) : a.grownBy (w.alloc o) row :=
  ⟨h.os, h.tape, h.output, Nat.le_trans h.size (by simp), fun i hi hne => (Below.heap_alloc w o i (Nat.lt_of_lt_of_le hi h.size)).trans (h.block i hi hne)⟩
theorem grown_trans {a b c : World} {row : Option Nat} (h : a.grownBy b row) (k : b.grownBy c row) : a.grownBy c row :=
  ⟨k.os.trans h.os, k.tape.trans h.tape, k.output.trans h.output, Nat.le_trans h.size k.size, fun i hi hne => (k.block i (Nat.lt_of_lt_of_le hi h.size) hne).trans (h.block i hi hne)⟩
theorem grown_refl (w : World) (row : Option Nat) : w.grownBy w row := ⟨rfl, rfl, rfl, Nat.le_refl _, fun _ _ _ => rfl⟩
theorem grown_drewN {a w : World} {row : Option Nat} (h : a.grownBy w row) (n : Nat) : a.grownBy (w.drewN n) row := ⟨h.os, h.tape, h.output, h.size, h.block⟩
end Go.Proofs.YtpldkfbglfcidaaDoor
