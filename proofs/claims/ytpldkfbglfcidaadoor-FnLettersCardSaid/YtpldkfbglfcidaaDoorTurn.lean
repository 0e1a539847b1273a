/- A range over a function whose iterator writes blocks of its own between two rounds. -/
import Derived.RangeFuncFrom
import Derived.RangeFuncCalls
namespace Go.Proofs.YtpldkfbglfcidaaDoor
set_option linter.unusedVariables false
set_option linter.unusedSimpArgs false
open Go.RowKit
/-- Whatever lies outside c blocks from D on lies as it lay. -/
structure TurnIn (D c : Nat) (A B : World) : Prop where
  os : B.os = A.os
  tape : B.tape = A.tape
  output : B.output = A.output
  size : A.heap.size ≤ B.heap.size
  block : ∀ k, k < A.heap.size → ¬ (D ≤ k ∧ k < D + c) → B.heap[k]? = A.heap[k]?
theorem TurnIn.refl (D c : Nat) (A : World) : TurnIn D c A A := ⟨rfl, rfl, rfl, Nat.le_refl _, fun _ _ _ => rfl⟩
theorem TurnIn.trans {D c : Nat} {A B C : World} (h : TurnIn D c A B) (k : TurnIn D c B C) : TurnIn D c A C :=
  ⟨k.os.trans h.os, k.tape.trans h.tape, k.output.trans h.output, Nat.le_trans h.size k.size, fun i hi hn => (k.block i (Nat.lt_of_lt_of_le hi h.size) hn).trans (h.block i hi hn)⟩
theorem TurnIn.alloc (D c : Nat) (A : World) (o : Obj) : TurnIn D c A (A.alloc o) := ⟨rfl, rfl, rfl, by simp, fun k hk _ => Below.heap_alloc A o k hk⟩
theorem TurnIn.drew (D c : Nat) (A : World) : TurnIn D c A A.drew := ⟨rfl, rfl, rfl, Nat.le_refl _, fun _ _ _ => rfl⟩
theorem TurnIn.setCell (D c : Nat) (A : World) (p : Addr) (v : Value) (h : D ≤ p.block ∧ p.block < D + c) : TurnIn D c A (A.setCell p v) :=
  ⟨rfl, rfl, rfl, by simp [World.setCell], fun k _ hn => Below.heap_setCell A p v k (fun e => hn (by subst e; exact h))⟩
theorem TurnIn.wide {D c D' c' : Nat} {A B : World} (h : TurnIn D c A B) (h1 : D' ≤ D) (h2 : D + c ≤ D' + c') : TurnIn D' c' A B :=
  ⟨h.os, h.tape, h.output, h.size, fun k hk hn => h.block k hk (fun ⟨a, b⟩ => hn ⟨by omega, by omega⟩)⟩
theorem TurnIn.of_grown {D c : Nat} {A B : World} {row : Option Nat} (h : A.grownBy B row) (hr : ∀ k, row = some k → D ≤ k ∧ k < D + c) : TurnIn D c A B :=
  ⟨h.os, h.tape, h.output, h.size, fun k hk hn => h.block k hk (fun e => hn (hr k e.symm))⟩
theorem TurnIn.of_below {D c : Nat} {A B : World} (h : Below A.heap.size A B) : TurnIn D c A B := ⟨h.os, h.tape, h.output, h.size, fun k hk _ => h.block k hk⟩
theorem TurnIn.cell {D c : Nat} {A B : World} (h : TurnIn D c A B) {p : Addr} {v : Value} (hp : ¬ (D ≤ p.block ∧ p.block < D + c)) (hv : A.cell? p = some v) : B.cell? p = some v := by
  obtain ⟨o, ho, _⟩ := cells_of_cell hv
  have := h.block p.block (Array.getElem?_eq_some_iff.1 ho).1 hp
  unfold World.cell? at hv ⊢
  rw [this]; exact hv
theorem TurnIn.frozen {D c : Nat} {A B : World} (h : TurnIn D c A B) {p : Addr} {v : Value} (hp : ¬ (D ≤ p.block ∧ p.block < D + c)) (hv : A.cell? p = some v) : B.frozen? p = A.frozen? p := by
  obtain ⟨o, ho, _⟩ := cells_of_cell hv
  have := h.block p.block (Array.getElem?_eq_some_iff.1 ho).1 hp
  unfold World.frozen?
  rw [this]
theorem TurnIn.below {D c n : Nat} {w A B : World} (h : TurnIn D c A B) (hb : Below n w A) (hn : n ≤ w.heap.size) (hD : n ≤ D) : Below n w B :=
  ⟨h.os.trans hb.os, h.tape.trans hb.tape, h.output.trans hb.output, Nat.le_trans hb.size h.size, fun k hk => (h.block k (by have := hb.size; omega) (by omega)).trans (hb.block k hk)⟩
/-- What a round keeps: one box, and the iterator's own blocks. -/
structure KeepIn (nb D c : Nat) (A B : World) : Prop where
  size : A.heap.size ≤ B.heap.size
  same : ∀ k, k = nb ∨ (D ≤ k ∧ k < D + c) → B.heap[k]? = A.heap[k]?
theorem KeepIn.refl (nb D c : Nat) (A : World) : KeepIn nb D c A A := ⟨Nat.le_refl _, fun _ _ => rfl⟩
theorem KeepIn.trans {nb D c : Nat} {A B C : World} (h : KeepIn nb D c A B) (k : KeepIn nb D c B C) : KeepIn nb D c A C :=
  ⟨Nat.le_trans h.size k.size, fun i hi => (k.same i hi).trans (h.same i hi)⟩
theorem KeepIn.setCell {nb D c : Nat} (A : World) (p : Addr) (v : Value) (h1 : p.block ≠ nb) (h2 : ¬ (D ≤ p.block ∧ p.block < D + c)) : KeepIn nb D c A (A.setCell p v) :=
  ⟨by simp [World.setCell], fun k hk => Below.heap_setCell A p v k (fun e => by subst e; rcases hk with h | h; exact h1 h; exact h2 h)⟩
theorem KeepIn.drew (nb D c : Nat) (A : World) : KeepIn nb D c A A.drew := ⟨Nat.le_refl _, fun _ _ => rfl⟩
theorem KeepIn.of_below {nb D c n : Nat} {A B : World} (h : Below n A B) (h1 : nb < n) (h2 : D + c ≤ n) : KeepIn nb D c A B :=
  ⟨h.size, fun k hk => h.block k (by omega)⟩
theorem KeepIn.of_grown {nb D c : Nat} {A B : World} {row : Option Nat} (h : A.grownBy B row) (h1 : nb < A.heap.size) (h2 : D + c ≤ A.heap.size) (hr : ∀ k, row = some k → k ≠ nb ∧ ¬ (D ≤ k ∧ k < D + c)) : KeepIn nb D c A B :=
  ⟨h.size, fun k hk => h.block k (by omega) (fun e => by have := hr k e.symm; rcases hk with h | h; exact this.1 h; exact this.2 h)⟩
theorem KeepIn.less {nb D c D' c' : Nat} {A B : World} (h : KeepIn nb D c A B) (h1 : D ≤ D') (h2 : D' + c' ≤ D + c) : KeepIn nb D' c' A B :=
  ⟨h.size, fun k hk => h.same k (by omega)⟩
theorem KeepIn.putObj {nb D c l : Nat} (A : World) (o : Obj) (h1 : l ≠ nb) (h2 : ¬ (D ≤ l ∧ l < D + c)) : KeepIn nb D c A (A.putObj l o) :=
  ⟨by simp, fun k hk => World.putObj_heap_other (fun e => by subst e; rcases hk with h | h; exact h1 h; exact h2 h)⟩
theorem TurnIn.putObj {D c l : Nat} (A : World) (o : Obj) (h : D ≤ l ∧ l < D + c) : TurnIn D c A (A.putObj l o) :=
  ⟨rfl, rfl, rfl, by simp, fun k _ hn => World.putObj_heap_other (fun e => hn (by subst e; exact h))⟩
/-- An iterator that owns c blocks from the world's end on, where it begins; what it hands over (Hd) may be read there. -/
def SeqTurn {α : Type} (P : Program) (g : Nat) (lb : Array Value) (encs : Nat → α → Array Value) (nb c : Nat) (Hd : Nat → α → World → Prop) (S : List α → Prop) (w : World) : Prop :=
  ∀ (n l : Nat) (J : List α → World → Prop) (W : World), Below w.heap.size w W → (∀ pre A B, J pre A → TurnIn W.heap.size c A B → J pre B) →
    (∀ m pre x W1, J pre W1 → Hd W.heap.size x W1 → YieldAt Fence.wide m P l (encs W.heap.size x) W1 fun e W' => e = .returned (.bool true) ∧ J (pre ++ [x]) W' ∧ KeepIn nb W.heap.size c W1 W') →
    J [] W → CallsIn Fence.wide n P g (#[.func (.yield l) #[] #[]] ++ lb) W fun e W' => (∃ v, e = .returned v) ∧ ∃ xs, S xs ∧ J xs W'
def turnPost (I : World → Prop) (nb D c : Nat) (W : World) : Exit → Act → World → Prop
  | .normal, _, W' => KeepIn nb D c W W' ∧ I W'
  | .ret, _, _ => False
  | .exit _, _, _ => False
  | .goto _, _, _ => False
  | .panic _, _, _ => False
  | .outgrown, _, _ => False
theorem wpIn_rangeFunc_turn {α : Type} {P : Program} {n : Nat} {g : Operand} {ps : Array Tmp} {assign body : Code} {Q : Exit → Act → World → Prop} {a : Act} {w : World}
    {gf : Nat} {lb : Array Value} (hg : a.eval g = .func (.func gf) #[] lb) (eg : ∀ args w, (callFunc gf args).run P w = .ok (.enter gf args) w)
    {encs : Nat → α → Array Value} {nb c : Nat} {Hd : Nat → α → World → Prop} {S : List α → Prop} {w0 : World} (hseq : SeqTurn P gf lb encs nb c Hd S w0)
    (hb0 : Below w0.heap.size w0 w) (hnb : nb < w.heap.size) (hps : ∀ D x, (encs D x).size = ps.size)
    (hHd : ∀ D x A B, Hd D x A → KeepIn nb D c A B → Hd D x B)
    (I : List α → World → Prop) (hI : ∀ pre A B, I pre A → TurnIn w.heap.size (c + 2) A B → I pre B) (h0 : I [] w) (a₁ : α → Act)
    (hassign : ∀ (m l : Nat) (x : α) (W : World) (K : Act → World → Prop), K (a₁ x) W →
      assign.wpIn (Fence.wide.inRound l) m P (Exit.then K (fun _ _ _ => False)) { tmps := (ps.zip (encs (w.heap.size + 2) x)).foldl (fun t (p, v) => t.setIfInBounds p v) a.tmps, defers := [] } W)
    (hbody : ∀ (m l : Nat) (pre : List α) (x : α) (W : World), I pre W → Hd (w.heap.size + 2) x W → body.wpIn (Fence.wide.inRound l) m P (turnPost (I (pre ++ [x])) nb w.heap.size (c + 2) W) (a₁ x) W)
    (hdone : ∀ (xs : List α) (W : World), S xs → I xs W → W.heap[w.heap.size]? = some (.deferred (some [])) → Q .normal { a with defers := { target := .collected w.heap.size, args := #[] } :: a.defers } W) :
    (Code.rangeFunc g ps assign body).wpIn Fence.wide n P Q a w := by
  refine wpIn_rangeFunc ?_
  intro fn hfn
  rw [show Fence.wide.round = none from rfl]
  obtain ⟨rec, hrec⟩ : ∃ rec : LoopState → Option Code → Loop, rec = fun st pe => { state := st, pending := pe, fn, tmps := a.tmps, params := ps, assign, body, defers := w.heap.size } := ⟨_, rfl⟩
  obtain ⟨W1, hW1⟩ : ∃ W1, (w.alloc (.deferred (some []))).alloc (.loop (rec .ready none)) = W1 := ⟨_, rfl⟩
  have hL1 : W1.heap[w.heap.size + 1]? = some (.loop (rec .ready none)) := by
    rw [← hW1]; have := World.alloc_heap_new (w.alloc (.deferred (some []))) (.loop (rec .ready none)); rwa [World.size_alloc] at this
  have hK1 : W1.heap[w.heap.size]? = some (.deferred (some [])) := by
    rw [← hW1]; exact (Below.heap_alloc _ _ _ (by simp)).trans (World.alloc_heap_new w _)
  have hs1 : W1.heap.size = w.heap.size + 2 := by rw [← hW1]; simp
  have hI1 : I [] W1 := by rw [← hW1]; exact hI _ _ _ (hI _ _ _ h0 (TurnIn.alloc _ _ _ _)) (TurnIn.alloc _ _ _ _)
  have hb1 : Below w0.heap.size w0 W1 := by
    rw [← hW1]; exact hb0.trans ((((Below.refl _ w).alloc (Nat.le_refl _) _).alloc (by simp) _).mono hb0.size)
  refine ⟨w.heap.size + 1, [{ target := .collected w.heap.size, args := #[] }], W1, { target := .fn (.func gf) lb, args := #[.func (.yield (w.heap.size + 1)) #[] #[]] }, W1, gf,
    #[.func (.yield (w.heap.size + 1)) #[] #[]] ++ lb, W1, ?_, ?_, ?_, ?_, fun h => by simp [Fence.wide] at h, ?_⟩
  · rw [← hW1, hrec]; exact run_enterLoop_outer _ _ _ _ _
  · simp only [resolve, hg]
    simp [go_sem]
  · intro f' _; trivial
  · simp [invoke, go_sem, eg]
  · refine (hseq _ (w.heap.size + 1)
      (fun pre W => I pre W ∧ W.heap[w.heap.size + 1]? = some (.loop (rec .ready none)) ∧ W.heap[w.heap.size]? = some (.deferred (some [])))
      W1 hb1 ?_ ?_ ⟨hI1, hL1, hK1⟩).mono ?_
    · rintro pre A B ⟨h1, h2, h3⟩ ht
      rw [hs1] at ht
      exact ⟨hI _ _ _ h1 (ht.wide (by omega) (by omega)), (ht.block _ (Array.getElem?_eq_some_iff.1 h2).1 (by omega)).trans h2, (ht.block _ (Array.getElem?_eq_some_iff.1 h3).1 (by omega)).trans h3⟩
    · -- one round
      rintro m pre x W ⟨hi, hl, hk⟩ hh
      rw [hs1] at hh ⊢
      have hlt : w.heap.size + 1 < W.heap.size := (Array.getElem?_eq_some_iff.1 hl).1
      have hy := run_yield (P := P) (args := encs (w.heap.size + 2) x) hl (by rw [hrec]; exact hps _ x)
      rw [hrec] at hy
      refine ⟨fn, _, assign, body, hy, roundIn_of_wpIn hfn (hassign _ _ x W _ ⟨_, run_beginRound hl (by rw [hrec]), ?_⟩)⟩
      have hl2 : (W.putObj (w.heap.size + 1) (.loop { rec .ready none with state := .busy })).heap[w.heap.size + 1]? = some (.loop { rec .ready none with state := .busy }) := World.putObj_heap_same hlt
      have hk2 : (W.putObj (w.heap.size + 1) (.loop { rec .ready none with state := .busy })).heap[w.heap.size]? = some (.deferred (some [])) := (World.putObj_heap_other (by omega)).trans hk
      have hw2 : KeepIn nb (w.heap.size + 2) c W (W.putObj (w.heap.size + 1) (.loop { rec .ready none with state := .busy })) := KeepIn.putObj _ _ (by omega) (by omega)
      refine wpIn_mono (hbody _ _ pre x _ (hI _ _ _ hi (TurnIn.putObj _ _ (by omega))) (hHd _ _ _ _ hh hw2)) ?_
      rintro e a3 W3 hp
      cases e with
      | normal =>
        obtain ⟨hk3, hi3⟩ := hp
        have hl3 := (hk3.same (w.heap.size + 1) (by omega)).trans hl2
        have hd3 := (hk3.same w.heap.size (by omega)).trans hk2
        have hend := run_endRound (P := P) none hl3
        rw [hrec] at hend
        refine ⟨_, _, hend, rfl, ⟨hI _ _ _ hi3 (TurnIn.putObj _ _ (by omega)), ?_, (World.putObj_heap_other (by omega)).trans hd3⟩, (hw2.trans (hk3.less (by omega) (by omega))).trans (KeepIn.putObj _ _ (by omega) (by omega))⟩
        rw [World.putObj_heap_same (Array.getElem?_eq_some_iff.1 hl3).1, hrec]
        rfl
      | ret => exact hp.elim
      | exit id => exact hp.elim
      | goto t => exact hp.elim
      | panic ch => exact hp.elim
      | outgrown => exact hp.elim
    · -- behind the iterator
      rintro e W2 ⟨⟨v, rfl⟩, xs, hS, hi, hl, hk⟩
      exact ⟨none, _, by have := run_endLoop (P := P) hl (by rw [hrec]; simp); rw [hrec] at this; exact this, hdone xs _ hS (hI _ _ _ hi (TurnIn.putObj _ _ (by omega))) ((World.putObj_heap_other (by omega)).trans hk)⟩
end Go.Proofs.YtpldkfbglfcidaaDoor
