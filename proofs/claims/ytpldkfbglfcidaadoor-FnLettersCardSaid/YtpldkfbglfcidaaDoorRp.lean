/- Plain laws: the letters of codes, and a signal's pieces. -/
import Derived.Test.YtpldkfbglfcidaaDoorPlain
import Derived.Test.YtpldkfbglfcidaaDoorSv
namespace Go.Proofs.YtpldkfbglfcidaaDoor
set_option linter.unusedVariables false
set_option linter.unusedSimpArgs false
open Go.RowKit
/-- The letter at the end of a code, from node n of the tree on; 0 for none. -/
def folV : Nat → List UInt8 → Nat
  | n, [] => if 2 ≤ n ∧ n < 28 then 95 + n else 0
  | n, c :: r => if n < 28 then (if c = 45 then folV (2 * n) r else if c = 43 then folV (2 * n + 1) r else 0) else 0
def letV (l : List UInt8) : Nat := folV 1 l
theorem folV_big {n : Nat} (h : 28 ≤ n) : ∀ l, folV n l = 0
  | [] => by rw [folV, if_neg (by omega)]
  | c :: r => by rw [folV, if_neg (by omega)]
theorem folV_le : ∀ (l : List UInt8) (n : Nat), folV n l ≤ 122
  | [], n => by rw [folV]; split <;> omega
  | c :: r, n => by
    have h1 := folV_le r (2 * n)
    have h2 := folV_le r (2 * n + 1)
    rw [folV]
    split
    · split
      · exact h1
      · split
        · exact h2
        · omega
    · omega
theorem cg_up (f n b : Nat) (l : List UInt8) (h : 1 ≤ n) (hb : b < 2) : cg (f + 1) (2 * n + b) l = cg f n ((if b = 1 then 43 else 45) :: l) := by
  rw [cg, if_pos (by omega), show (2 * n + b) / 2 = n by omega, show (2 * n + b) % 2 = b by omega]
theorem folV_ex : ∀ (l : List UInt8) (n : Nat), 1 ≤ n → folV n l ≠ 0 → ∃ m, 2 ≤ m ∧ m < 28 ∧ folV n l = 95 + m ∧ n * 2 ^ l.length ≤ m ∧ ∀ f out, cg (f + l.length) m out = cg f n (l ++ out)
  | [], n, h1, h => by
    by_cases h2 : 2 ≤ n ∧ n < 28
    · exact ⟨n, h2.1, h2.2, by rw [folV, if_pos h2], by simp, fun f out => by simp⟩
    · rw [folV, if_neg h2] at h; exact absurd rfl h
  | c :: r, n, h1, h => by
    by_cases h2 : n < 28
    · rw [folV, if_pos h2] at h
      by_cases h3 : c = 45
      · rw [if_pos h3] at h
        obtain ⟨m, a1, a2, a3, a4, a5⟩ := folV_ex r (2 * n) (by omega) h
        refine ⟨m, a1, a2, by rw [folV, if_pos h2, if_pos h3]; exact a3, ?_, fun f out => ?_⟩
        · rw [List.length_cons, Nat.pow_succ, Nat.mul_comm _ 2, ← Nat.mul_assoc, Nat.mul_comm n 2]; exact a4
        · rw [List.length_cons, show f + (r.length + 1) = (f + 1) + r.length by omega, a5 (f + 1) out]
          have := cg_up f n 0 (r ++ out) h1 (by omega)
          rw [Nat.add_zero] at this
          refine Eq.trans this ?_
          rw [h3]; rfl
      · rw [if_neg h3] at h
        by_cases h4 : c = 43
        · rw [if_pos h4] at h
          obtain ⟨m, a1, a2, a3, a4, a5⟩ := folV_ex r (2 * n + 1) (by omega) h
          refine ⟨m, a1, a2, by rw [folV, if_pos h2, if_neg h3, if_pos h4]; exact a3, ?_, fun f out => ?_⟩
          · rw [List.length_cons, Nat.pow_succ, Nat.mul_comm _ 2, ← Nat.mul_assoc, Nat.mul_comm n 2]
            exact Nat.le_trans (Nat.mul_le_mul_right _ (by omega)) a4
          · rw [List.length_cons, show f + (r.length + 1) = (f + 1) + r.length by omega, a5 (f + 1) out, cg_up f n 1 (r ++ out) h1 (by omega), h4]; rfl
        · rw [if_neg h4] at h; exact absurd rfl h
    · rw [folV, if_neg h2] at h; exact absurd rfl h
theorem letV_code : ∀ j : Fin 26, letV (codeB (97 + (j : Nat))) = 97 + (j : Nat) := by decide
theorem letV_inv {l : List UInt8} (h : letV l ≠ 0) : ∃ j, j < 26 ∧ letV l = 97 + j ∧ codeB (97 + j) = l := by
  obtain ⟨m, a1, a2, a3, a4, a5⟩ := folV_ex l 1 (Nat.le_refl _) h
  have a3' : letV l = 95 + m := a3
  have hl : l.length ≤ 4 := by
    rcases Nat.lt_or_ge l.length 5 with h5 | h5
    · omega
    · have := Nat.pow_le_pow_right (n := 2) (by omega) h5
      omega
  refine ⟨m - 2, by omega, by omega, ?_⟩
  have := a5 (5 - l.length) []
  rw [show 5 - l.length + l.length = 5 by omega, cg_stop _ 1 _ (by omega), List.append_nil] at this
  unfold codeB
  rw [show 97 + (m - 2) - 97 + 2 = m by omega]; exact this
theorem letV_le (l : List UInt8) : letV l ≤ 122 := folV_le l 1
/-- A signal's pieces between zeros. -/
def pieces : List UInt8 → List (List UInt8)
  | [] => [[]]
  | c :: r => if c = 48 then [] :: pieces r else match pieces r with
    | [] => [[c]]
    | p :: ps => (c :: p) :: ps
theorem pieces_none : ∀ l : List UInt8, (∀ c ∈ l, c ≠ 48) → pieces l = [l]
  | [], _ => rfl
  | c :: r, h => by
    rw [pieces, if_neg (h c (by simp)), pieces_none r (fun x hx => h x (by simp [hx]))]
theorem pieces_cut : ∀ (l : List UInt8) (i : Nat), (∀ c ∈ l.take i, c ≠ 48) → l[i]? = some 48 → pieces l = l.take i :: pieces (l.drop (i + 1))
  | [], _, _, h => by simp at h
  | c :: r, 0, _, h => by
    have : c = 48 := by simpa using h
    rw [pieces, if_pos this]; simp
  | c :: r, i + 1, h1, h2 => by
    have h3 := pieces_cut r i (fun x hx => h1 x (by simp [hx])) (by simpa using h2)
    rw [pieces, if_neg (h1 c (by simp)), h3]
    simp
theorem pieces_ne (l : List UInt8) : pieces l ≠ [] := by
  cases l with
  | nil => simp [pieces]
  | cons c r =>
    rw [pieces]
    split
    · simp
    · split <;> simp
theorem pieces_small : ∀ (l : List UInt8), ∀ p ∈ pieces l, p.length ≤ l.length
  | [], p, h => by simp [pieces] at h; simp [h]
  | c :: r, p, h => by
    have ih := pieces_small r
    rw [pieces] at h
    split at h
    · rcases List.mem_cons.1 h with rfl | h1
      · simp
      · have := ih p h1; simp; omega
    · split at h
      · simp at h; simp [h]
      · rename_i q ps he
        rw [he] at ih
        rcases List.mem_cons.1 h with rfl | h1
        · have := ih q (by simp); simp; omega
        · have := ih p (by simp [h1]); simp; omega
theorem pieces_len : ∀ (l : List UInt8), (pieces l).length ≤ l.length + 1
  | [] => by simp [pieces]
  | c :: r => by
    have ih := pieces_len r
    rw [pieces]
    split
    · simp; omega
    · split
      · simp
      · rename_i q ps he
        rw [he] at ih
        simp at ih ⊢; omega
/-- May the pieces be read? -/
def okTo (ps : List (List UInt8)) : Bool := decide (ps.length ≤ 12) && ps.all (fun p => letV p != 0)
def txtTo (ps : List (List UInt8)) : List UInt8 := ps.map fun p => UInt8.ofNat (letV p)
theorem okTo_snoc (ps : List (List UInt8)) (p : List UInt8) : okTo (ps ++ [p]) = (okTo ps && (decide (ps.length ≤ 11) && letV p != 0)) := by
  unfold okTo
  rw [List.length_append, List.all_append]
  simp only [List.length_cons, List.length_nil, List.all_cons, List.all_nil, Bool.and_true]
  by_cases h : ps.length ≤ 11
  · have h2 : ps.length ≤ 12 := by omega
    have h3 : ps.length + (0 + 1) ≤ 12 := by omega
    simp only [h, h2, h3, decide_true, Bool.true_and]
  · have h3 : ¬ ps.length + (0 + 1) ≤ 12 := by omega
    simp only [h, h3, decide_false, Bool.false_and, Bool.and_false]
theorem okTo_pre {ps qs : List (List UInt8)} (h : ps <+: qs) (hp : okTo ps = false) : okTo qs = false := by
  obtain ⟨r, rfl⟩ := h
  unfold okTo at hp ⊢
  rw [List.length_append, List.all_append]
  rw [Bool.and_eq_false_iff] at hp ⊢
  rcases hp with h1 | h1
  · left; simp at h1 ⊢; omega
  · right; rw [h1]; rfl
theorem txtTo_snoc (ps : List (List UInt8)) (p : List UInt8) : txtTo (ps ++ [p]) = txtTo ps ++ [UInt8.ofNat (letV p)] := by simp [txtTo]
theorem txtTo_len (ps : List (List UInt8)) : (txtTo ps).length = ps.length := by simp [txtTo]
def rdOk (l : List UInt8) : Bool := l.isEmpty || (sgValid l && okTo (pieces l))
def rdS (l : List UInt8) : ByteArray := if l.isEmpty = true then ⟨#[]⟩ else if (sgValid l && okTo (pieces l)) = true then ⟨(txtTo (pieces l)).toArray⟩ else ⟨#[]⟩
def rdR (l : List UInt8) (r : ByteArray) (ok : Bool) : Prop := r = rdS l ∧ ok = rdOk l
theorem rdR_one (l : List UInt8) : ∀ r ok r' ok', rdR l r ok → rdR l r' ok' → r = r' ∧ ok = ok' := fun _ _ _ _ h1 h2 => ⟨h1.1.trans h2.1.symm, h1.2.trans h2.2.symm⟩
theorem rdR_nil : rdR [] ⟨#[]⟩ true := ⟨rfl, rfl⟩
theorem rdR_bad {l : List UInt8} (h0 : l ≠ []) (h : sgValid l = false) : rdR l ⟨#[]⟩ false := by
  have : l.isEmpty = false := by cases l <;> simp_all
  unfold rdR rdS rdOk; rw [this, h]; exact ⟨rfl, rfl⟩
theorem rdR_no {l : List UInt8} (h0 : l ≠ []) (h : okTo (pieces l) = false) : rdR l ⟨#[]⟩ false := by
  have : l.isEmpty = false := by cases l <;> simp_all
  unfold rdR rdS rdOk; rw [this, h, Bool.and_false]; exact ⟨rfl, rfl⟩
theorem rdR_yes {l : List UInt8} (h0 : l ≠ []) (hv : sgValid l = true) (h : okTo (pieces l) = true) : rdR l ⟨(txtTo (pieces l)).toArray⟩ true := by
  have : l.isEmpty = false := by cases l <;> simp_all
  unfold rdR rdS rdOk; rw [this, h, hv]; exact ⟨rfl, rfl⟩
def ReadPost (l : List UInt8) (w : World) (e : Ending) (w' : World) : Prop := ∃ r ok, e = .returned (.tuple #[.string r, .bool ok]) ∧ rdR l r ok ∧ Below w.heap.size w w'
end Go.Proofs.YtpldkfbglfcidaaDoor
