/- A range over a function whose iterator keeps its place in a box that lay ahead of the loop; the body may return. -/
import Derived.Test.YtpldkfbglfcidaaDoorTurn
import Derived.Test.YtpldkfbglfcidaaDoorSm
namespace Go.Proofs.YtpldkfbglfcidaaDoor
set_option linter.unusedVariables false
set_option linter.unusedSimpArgs false
open Go.RowKit
/-- Whatever lies outside the z blocks from nb on and the c blocks from D on lies as it lay. -/
structure TurnBox (nb z D c : Nat) (A B : World) : Prop where
  os : B.os = A.os
  tape : B.tape = A.tape
  output : B.output = A.output
  size : A.heap.size ≤ B.heap.size
  block : ∀ k, k < A.heap.size → ¬ (nb ≤ k ∧ k < nb + z) → ¬ (D ≤ k ∧ k < D + c) → B.heap[k]? = A.heap[k]?
theorem TurnBox.of_turn {nb z D c : Nat} {A B : World} (h : TurnIn D c A B) : TurnBox nb z D c A B := ⟨h.os, h.tape, h.output, h.size, fun k hk _ hn => h.block k hk hn⟩
theorem TurnBox.wide {nb z D c D' c' : Nat} {A B : World} (h : TurnBox nb z D c A B) (hc : c = 0 ∨ (D' ≤ D ∧ D + c ≤ D' + c')) : TurnBox nb z D' c' A B :=
  ⟨h.os, h.tape, h.output, h.size, fun k hk h1 h2 => h.block k hk h1 (fun ⟨a, b⟩ => by
    rcases hc with rfl | ⟨x, y⟩
    · omega
    · exact h2 ⟨by omega, by omega⟩)⟩
theorem TurnBox.setCell (nb z D c : Nat) (A : World) (p : Addr) (v : Value) (h : nb ≤ p.block ∧ p.block < nb + z) : TurnBox nb z D c A (A.setCell p v) :=
  ⟨rfl, rfl, rfl, by simp [World.setCell], fun k _ hn _ => Below.heap_setCell A p v k (fun e => hn (by rw [e]; exact h))⟩
theorem TurnBox.drew (nb z D c : Nat) (A : World) : TurnBox nb z D c A A.drew := ⟨rfl, rfl, rfl, Nat.le_refl _, fun _ _ _ _ => rfl⟩
theorem TurnBox.drewN (nb z D c : Nat) (A : World) (n : Nat) : TurnBox nb z D c A (A.drewN n) := ⟨rfl, rfl, rfl, Nat.le_refl _, fun _ _ _ _ => rfl⟩
theorem TurnBox.refl (nb z D c : Nat) (A : World) : TurnBox nb z D c A A := ⟨rfl, rfl, rfl, Nat.le_refl _, fun _ _ _ _ => rfl⟩
theorem TurnBox.alloc (nb z D c : Nat) (A : World) (o : Obj) : TurnBox nb z D c A (A.alloc o) := .of_turn (TurnIn.alloc _ _ _ _)
theorem TurnBox.of_below {nb z D c : Nat} {A B : World} (h : Below A.heap.size A B) : TurnBox nb z D c A B := .of_turn (TurnIn.of_below h)
theorem TurnBox.trans {nb z D c : Nat} {A B C : World} (h : TurnBox nb z D c A B) (k : TurnBox nb z D c B C) : TurnBox nb z D c A C :=
  ⟨k.os.trans h.os, k.tape.trans h.tape, k.output.trans h.output, Nat.le_trans h.size k.size, fun i hi h1 h2 => (k.block i (Nat.lt_of_lt_of_le hi h.size) h1 h2).trans (h.block i hi h1 h2)⟩
theorem TurnBox.row {nb z D c b : Nat} {A B : World} (h : TurnBox nb z D c A B) (hb : b < A.heap.size) (hn : ¬ (nb ≤ b ∧ b < nb + z)) (hp : ¬ (D ≤ b ∧ b < D + c)) : B.heap[b]? = A.heap[b]? := h.block b hb hn hp
theorem TurnBox.below {nb z D c n : Nat} {w A B : World} (h : TurnBox nb z D c A B) (hb : Below n w A) (hn : n ≤ w.heap.size) (h1 : n ≤ nb) (hD : n ≤ D) : Below n w B :=
  ⟨h.os.trans hb.os, h.tape.trans hb.tape, h.output.trans hb.output, Nat.le_trans hb.size h.size, fun k hk => (h.block k (by have := hb.size; omega) (by omega) (by omega)).trans (hb.block k hk)⟩
/-- What a round keeps: the iterator's boxes, and c blocks from D on. -/
structure KeepBox (nb z D c : Nat) (A B : World) : Prop where
  size : A.heap.size ≤ B.heap.size
  same : ∀ k, (nb ≤ k ∧ k < nb + z) ∨ (D ≤ k ∧ k < D + c) → B.heap[k]? = A.heap[k]?
theorem KeepBox.refl (nb z D c : Nat) (A : World) : KeepBox nb z D c A A := ⟨Nat.le_refl _, fun _ _ => rfl⟩
theorem KeepBox.trans {nb z D c : Nat} {A B C : World} (h : KeepBox nb z D c A B) (k : KeepBox nb z D c B C) : KeepBox nb z D c A C :=
  ⟨Nat.le_trans h.size k.size, fun i hi => (k.same i hi).trans (h.same i hi)⟩
theorem KeepBox.setCell {nb z D c : Nat} (A : World) (p : Addr) (v : Value) (h1 : ¬ (nb ≤ p.block ∧ p.block < nb + z)) (h2 : ¬ (D ≤ p.block ∧ p.block < D + c)) : KeepBox nb z D c A (A.setCell p v) :=
  ⟨by simp [World.setCell], fun k hk => Below.heap_setCell A p v k (fun e => by subst e; rcases hk with h | h; exact h1 h; exact h2 h)⟩
theorem KeepBox.drew (nb z D c : Nat) (A : World) : KeepBox nb z D c A A.drew := ⟨Nat.le_refl _, fun _ _ => rfl⟩
theorem KeepBox.drewN (nb z D c : Nat) (A : World) (n : Nat) : KeepBox nb z D c A (A.drewN n) := ⟨Nat.le_refl _, fun _ _ => rfl⟩
theorem KeepBox.of_below {nb z D c n : Nat} {A B : World} (h : Below n A B) (h1 : nb + z ≤ n) (h2 : D + c ≤ n) : KeepBox nb z D c A B :=
  ⟨h.size, fun k hk => h.block k (by omega)⟩
theorem KeepBox.of_grown {nb z D c : Nat} {A B : World} {row : Option Nat} (h : A.grownBy B row) (h1 : nb + z ≤ A.heap.size) (h2 : D + c ≤ A.heap.size) (hr : ∀ k, row = some k → ¬ (nb ≤ k ∧ k < nb + z) ∧ ¬ (D ≤ k ∧ k < D + c)) : KeepBox nb z D c A B :=
  ⟨h.size, fun k hk => h.block k (by omega) (fun e => by have := hr k e.symm; rcases hk with h | h; exact this.1 h; exact this.2 h)⟩
theorem KeepBox.less {nb z D c D' c' : Nat} {A B : World} (h : KeepBox nb z D c A B) (h1 : c' = 0 ∨ (D ≤ D' ∧ D' + c' ≤ D + c)) : KeepBox nb z D' c' A B :=
  ⟨h.size, fun k hk => h.same k (by omega)⟩
theorem KeepBox.putObj {nb z D c l : Nat} (A : World) (o : Obj) (h1 : ¬ (nb ≤ l ∧ l < nb + z)) (h2 : ¬ (D ≤ l ∧ l < D + c)) : KeepBox nb z D c A (A.putObj l o) :=
  ⟨by simp, fun k hk => World.putObj_heap_other (fun e => by subst e; rcases hk with h | h; exact h1 h; exact h2 h)⟩
/-- An iterator that keeps its place in the z boxes from nb on; the loop's body may say 'no more'. -/
def SeqCut {α : Type} (P : Program) (g : Nat) (lb : Array Value) (encs : α → Array Value) (nb z : Nat) (Hd : α → Prop) (S Sp : List α → Prop) (w : World) : Prop :=
  ∀ (n l : Nat) (J Jx : List α → World → Prop) (W : World), Below w.heap.size w W → (∀ pre A B, J pre A → TurnBox nb z 0 0 A B → J pre B) → (∀ pre A B, Jx pre A → TurnBox nb z 0 0 A B → Jx pre B) →
    (∀ m pre x W1, J pre W1 → Hd x → YieldAt Fence.wide m P l (encs x) W1 fun e W' => (e = .returned (.bool true) ∧ J (pre ++ [x]) W' ∧ KeepBox nb z 0 0 W1 W') ∨ (e = .returned (.bool false) ∧ Jx (pre ++ [x]) W')) →
    J [] W → CallsIn Fence.wide n P g (#[.func (.yield l) #[] #[]] ++ lb) W fun e W' => (∃ v, e = .returned v) ∧ ((∃ xs, S xs ∧ J xs W') ∨ (∃ pre, Sp pre ∧ Jx pre W'))
def cutPost (I Ix : World → Prop) (nb z D : Nat) (W : World) : Exit → Act → World → Prop
  | .normal, _, W' => KeepBox nb z D 2 W W' ∧ I W'
  | .ret, _, W' => KeepBox nb z D 2 W W' ∧ Ix W'
  | .exit _, _, _ => False
  | .goto _, _, _ => False
  | .panic _, _, _ => False
  | .outgrown, _, _ => False
theorem wpIn_rangeFunc_cut {α : Type} {P : Program} {n : Nat} {g : Operand} {ps : Array Tmp} {assign body : Code} {Q : Exit → Act → World → Prop} {a : Act} {w : World}
    {gf : Nat} {lb : Array Value} (hg : a.eval g = .func (.func gf) #[] lb) (eg : ∀ args w, (callFunc gf args).run P w = .ok (.enter gf args) w)
    {encs : α → Array Value} {nb z : Nat} {Hd : α → Prop} {S Sp : List α → Prop} {w0 : World} (hseq : SeqCut P gf lb encs nb z Hd S Sp w0)
    (hb0 : Below w0.heap.size w0 w) (hnb : nb + z ≤ w.heap.size) (hps : ∀ x, (encs x).size = ps.size)
    (I Ix : List α → World → Prop) (hI : ∀ pre A B, I pre A → TurnBox nb z w.heap.size 2 A B → I pre B) (hIx : ∀ pre A B, Ix pre A → TurnBox nb z w.heap.size 2 A B → Ix pre B) (h0 : I [] w) (a₁ : α → Act)
    (hassign : ∀ (m l : Nat) (x : α) (W : World) (K : Act → World → Prop), K (a₁ x) W →
      assign.wpIn (Fence.wide.inRound l) m P (Exit.then K (fun _ _ _ => False)) { tmps := (ps.zip (encs x)).foldl (fun t (p, v) => t.setIfInBounds p v) a.tmps, defers := [] } W)
    (hbody : ∀ (m l : Nat) (pre : List α) (x : α) (W : World), I pre W → Hd x → w.heap.size + 2 ≤ W.heap.size → body.wpIn (Fence.wide.inRound l) m P (cutPost (I (pre ++ [x])) (Ix (pre ++ [x])) nb z w.heap.size W) (a₁ x) W)
    (hdone : ∀ (xs : List α) (W : World), S xs → I xs W → W.heap[w.heap.size]? = some (.deferred (some [])) → Q .normal { a with defers := { target := .collected w.heap.size, args := #[] } :: a.defers } W)
    (hstop : ∀ (pre : List α) (W : World), Sp pre → Ix pre W → W.heap[w.heap.size]? = some (.deferred (some [])) → Code.ret.wpIn Fence.wide n P Q { a with defers := { target := .collected w.heap.size, args := #[] } :: a.defers } W) :
    (Code.rangeFunc g ps assign body).wpIn Fence.wide n P Q a w := by
  refine wpIn_rangeFunc ?_
  intro fn hfn
  rw [show Fence.wide.round = none from rfl]
  obtain ⟨rec, hrec⟩ : ∃ rec : LoopState → Option Code → Loop, rec = fun st pe => { state := st, pending := pe, fn, tmps := a.tmps, params := ps, assign, body, defers := w.heap.size } := ⟨_, rfl⟩
  obtain ⟨W1, hW1⟩ : ∃ W1, (w.alloc (.deferred (some []))).alloc (.loop (rec .ready none)) = W1 := ⟨_, rfl⟩
  have hL1 : W1.heap[w.heap.size + 1]? = some (.loop (rec .ready none)) := by
    rw [← hW1]; have := World.alloc_heap_new (w.alloc (.deferred (some []))) (.loop (rec .ready none)); rwa [World.size_alloc] at this
  have hK1 : W1.heap[w.heap.size]? = some (.deferred (some [])) := by
    rw [← hW1]; exact (Below.heap_alloc _ _ _ (by simp)).trans (World.alloc_heap_new w _)
  have hI1 : I [] W1 := by rw [← hW1]; exact hI _ _ _ (hI _ _ _ h0 (TurnBox.alloc _ _ _ _ _ _)) (TurnBox.alloc _ _ _ _ _ _)
  have hb1 : Below w0.heap.size w0 W1 := by
    rw [← hW1]; exact hb0.trans ((((Below.refl _ w).alloc (Nat.le_refl _) _).alloc (by simp) _).mono hb0.size)
  refine ⟨w.heap.size + 1, [{ target := .collected w.heap.size, args := #[] }], W1, { target := .fn (.func gf) lb, args := #[.func (.yield (w.heap.size + 1)) #[] #[]] }, W1, gf,
    #[.func (.yield (w.heap.size + 1)) #[] #[]] ++ lb, W1, ?_, ?_, ?_, ?_, fun h => by simp [Fence.wide] at h, ?_⟩
  · rw [← hW1, hrec]; exact run_enterLoop_outer _ _ _ _ _
  · simp only [resolve, hg]
    simp [go_sem]
  · intro f' _; trivial
  · simp [invoke, go_sem, eg]
  · refine (hseq _ (w.heap.size + 1)
      (fun pre W => I pre W ∧ W.heap[w.heap.size + 1]? = some (.loop (rec .ready none)) ∧ W.heap[w.heap.size]? = some (.deferred (some [])))
      (fun pre W => Ix pre W ∧ W.heap[w.heap.size + 1]? = some (.loop (rec .done (some .ret))) ∧ W.heap[w.heap.size]? = some (.deferred (some [])))
      W1 hb1 ?_ ?_ ?_ ⟨hI1, hL1, hK1⟩).mono ?_
    · rintro pre A B ⟨h1, h2, h3⟩ ht
      exact ⟨hI _ _ _ h1 (ht.wide (.inl rfl)), (ht.block _ (Array.getElem?_eq_some_iff.1 h2).1 (by omega) (by omega)).trans h2, (ht.block _ (Array.getElem?_eq_some_iff.1 h3).1 (by omega) (by omega)).trans h3⟩
    · rintro pre A B ⟨h1, h2, h3⟩ ht
      exact ⟨hIx _ _ _ h1 (ht.wide (.inl rfl)), (ht.block _ (Array.getElem?_eq_some_iff.1 h2).1 (by omega) (by omega)).trans h2, (ht.block _ (Array.getElem?_eq_some_iff.1 h3).1 (by omega) (by omega)).trans h3⟩
    · -- one round
      rintro m pre x W ⟨hi, hl, hk⟩ hh
      have hlt : w.heap.size + 1 < W.heap.size := (Array.getElem?_eq_some_iff.1 hl).1
      have hy := run_yield (P := P) (args := encs x) hl (by rw [hrec]; exact hps x)
      rw [hrec] at hy
      refine ⟨fn, _, assign, body, hy, roundIn_of_wpIn hfn (hassign _ _ x W _ ⟨_, run_beginRound hl (by rw [hrec]), ?_⟩)⟩
      have hl2 : (W.putObj (w.heap.size + 1) (.loop { rec .ready none with state := .busy })).heap[w.heap.size + 1]? = some (.loop { rec .ready none with state := .busy }) := World.putObj_heap_same hlt
      have hk2 : (W.putObj (w.heap.size + 1) (.loop { rec .ready none with state := .busy })).heap[w.heap.size]? = some (.deferred (some [])) := (World.putObj_heap_other (by omega)).trans hk
      have hw2 : KeepBox nb z (w.heap.size + 2) 0 W (W.putObj (w.heap.size + 1) (.loop { rec .ready none with state := .busy })) := KeepBox.putObj _ _ (by omega) (by omega)
      refine wpIn_mono (hbody _ _ pre x _ (hI _ _ _ hi (.of_turn (TurnIn.putObj _ _ (by omega)))) hh (by simp; omega)) ?_
      rintro e a3 W3 hp
      cases e with
      | normal =>
        obtain ⟨hk3, hi3⟩ := hp
        have hl3 := (hk3.same (w.heap.size + 1) (by omega)).trans hl2
        have hd3 := (hk3.same w.heap.size (by omega)).trans hk2
        have hend := run_endRound (P := P) none hl3
        rw [hrec] at hend
        refine ⟨_, _, hend, .inl ⟨rfl, ⟨hI _ _ _ hi3 (.of_turn (TurnIn.putObj _ _ (by omega))), ?_, (World.putObj_heap_other (by omega)).trans hd3⟩, ?_⟩⟩
        · rw [World.putObj_heap_same (Array.getElem?_eq_some_iff.1 hl3).1, hrec]
          rfl
        · have hkk := (hw2.trans (hk3.less (.inl rfl))).trans (KeepBox.putObj (nb := nb) (z := z) (D := w.heap.size + 2) (c := 0) (l := w.heap.size + 1) W3 (.loop { state := (if (none : Option Code).isNone = true then .ready else .done), pending := none, fn, tmps := a.tmps, params := ps, assign, body, defers := w.heap.size }) (by omega) (by omega))
          exact ⟨hkk.size, fun k hk => hkk.same k (.inl (by omega))⟩
      | ret =>
        obtain ⟨hk3, hi3⟩ := hp
        have hl3 := (hk3.same (w.heap.size + 1) (by omega)).trans hl2
        have hd3 := (hk3.same w.heap.size (by omega)).trans hk2
        have hend := run_endRound (P := P) (some .ret) hl3
        rw [hrec] at hend
        refine ⟨_, _, hend, .inr ⟨rfl, hIx _ _ _ hi3 (.of_turn (TurnIn.putObj _ _ (by omega))), ?_, (World.putObj_heap_other (by omega)).trans hd3⟩⟩
        rw [World.putObj_heap_same (Array.getElem?_eq_some_iff.1 hl3).1, hrec]
        rfl
      | exit id => exact hp.elim
      | goto t => exact hp.elim
      | panic ch => exact hp.elim
      | outgrown => exact hp.elim
    · -- behind the iterator
      rintro e W2 ⟨⟨v, rfl⟩, (⟨xs, hS, hi, hl, hk⟩ | ⟨pre, hSp, hi, hl, hk⟩)⟩
      · exact ⟨none, _, by have := run_endLoop (P := P) hl (by rw [hrec]; simp); rw [hrec] at this; exact this, hdone xs _ hS (hI _ _ _ hi (.of_turn (TurnIn.putObj _ _ (by omega)))) ((World.putObj_heap_other (by omega)).trans hk)⟩
      · exact ⟨some .ret, _, by have := run_endLoop (P := P) hl (by rw [hrec]; simp); rw [hrec] at this; exact this, hstop pre _ hSp (hIx _ _ _ hi (.of_turn (TurnIn.putObj _ _ (by omega)))) ((World.putObj_heap_other (by omega)).trans hk)⟩
end Go.Proofs.YtpldkfbglfcidaaDoor
