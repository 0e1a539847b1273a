/- SignalOf of the reference, walked. -/
import Derived.Test.YtpldkfbglfcidaaDoorCode
import Derived.Test.YtpldkfbglfcidaaDoorSv
import Derived.Lib.Join
namespace Go.Proofs.YtpldkfbglfcidaaDoor
set_option linter.unusedVariables false
set_option linter.unusedSimpArgs false
open Go.RowKit
theorem cg_len (f n : Nat) (l : List UInt8) : (cg f n l).length ≤ f + l.length := by
  induction f generalizing n l with
  | zero => simp [cg]
  | succ f ih =>
    rw [cg]
    split
    · have := ih (n / 2) ((if n % 2 = 1 then 43 else 45) :: l)
      rw [List.length_cons] at this; omega
    · omega
theorem cg_ne (f n : Nat) (l : List UInt8) (h : l ≠ []) : cg f n l ≠ [] := by
  induction f generalizing n l with
  | zero => simpa [cg] using h
  | succ f ih =>
    rw [cg]
    split
    · exact ih _ _ (by simp)
    · exact h
theorem codeB_len (c : Nat) : (codeB c).length ≤ 5 := cg_len 5 _ []
theorem codeB_ne {c : Nat} : (codeB c).isEmpty = false := by
  have : codeB c ≠ [] := by
    unfold codeB
    rw [cg, if_pos (by omega)]
    exact cg_ne _ _ _ (by simp)
  simpa using this
def isLB (c : UInt8) : Bool := decide (97 ≤ c.toNat ∧ c.toNat ≤ 122)
/-- The codes of the first n letters; the signal. -/
def codesTo (l : List UInt8) (n : Nat) : List (List UInt8) := (List.range n).map fun k => codeB (l.getD k 0).toNat
def ofTo (l : List UInt8) (n : Nat) : List UInt8 := Lib.join (codesTo l n) [48]
theorem join_snoc (xs : List (List UInt8)) (x : List UInt8) : Lib.join (xs ++ [x]) [48] = if xs = [] then x else Lib.join xs [48] ++ 48 :: x := by
  cases xs with
  | nil => simp [Lib.join_one]
  | cons y r =>
    rw [if_neg (by simp), List.cons_append, Lib.join_cons, Lib.join_cons]
    unfold Lib.joinTail
    simp
theorem codesTo_succ {s : ByteArray} {k : Nat} (h : k < s.size) : codesTo s.data.toList (k + 1) = codesTo s.data.toList k ++ [codeB s[k].toNat] := by
  unfold codesTo
  rw [List.range_succ, List.map_append]
  simp only [List.map_cons, List.map_nil, List.getD, at_list s k h]; rfl
theorem ofTo_zero (l : List UInt8) : ofTo l 0 = [] := rfl
theorem ofTo_succ {s : ByteArray} {k : Nat} (h : k < s.size) : ofTo s.data.toList (k + 1) = if k = 0 then codeB s[k].toNat else ofTo s.data.toList k ++ 48 :: codeB s[k].toNat := by
  unfold ofTo
  rw [codesTo_succ h, join_snoc]
  have : codesTo s.data.toList k = [] ↔ k = 0 := by unfold codesTo; simp
  simp only [this]
theorem ofTo_len (s : ByteArray) : ∀ k, k ≤ s.size → (ofTo s.data.toList k).length ≤ 6 * k
  | 0, _ => by simp [ofTo_zero]
  | k + 1, h => by
    have ih := ofTo_len s k (by omega)
    have hc := codeB_len s[k].toNat
    rw [ofTo_succ (by omega)]
    split
    · omega
    · rw [List.length_append, List.length_cons]; omega
def ofOk (l : List UInt8) : Bool := l.all isLB && (decide (l.length ≤ 12) && decide ((ofTo l l.length).length ≤ 80))
def ofR (l : List UInt8) (r : ByteArray) (ok : Bool) : Prop := r = (if ofOk l = true then ⟨(ofTo l l.length).toArray⟩ else ⟨#[]⟩) ∧ ok = ofOk l
theorem ofR_one (l : List UInt8) : ∀ r ok r' ok', ofR l r ok → ofR l r' ok' → r = r' ∧ ok = ok' := fun _ _ _ _ h1 h2 => ⟨h1.1.trans h2.1.symm, h1.2.trans h2.2.symm⟩
def OfSPost (l : List UInt8) (w : World) (e : Ending) (w' : World) : Prop := ∃ r ok, e = .returned (.tuple #[.string r, .bool ok]) ∧ ofR l r ok ∧ Below w.heap.size w w'
theorem ofR_no {l : List UInt8} (h : ofOk l = false) : ofR l ⟨#[]⟩ false := ⟨by rw [h]; rfl, h.symm⟩
theorem ofOk_bad {s : ByteArray} {k : Nat} (h : k < s.size) (hc : isLB s[k] = false) : ofOk s.data.toList = false := by
  have hf : s.data.toList.all isLB = false := by
    rw [List.all_eq_false]
    exact ⟨s[k], List.mem_of_getElem? (at_list s k h), by rw [hc]; simp⟩
  rw [ofOk, hf]; rfl
theorem one_str (s : ByteArray) (k : Nat) (h : k < s.size) : (s.extract k (k + 1)).size = 1 ∧ ∀ (h0 : 0 < (s.extract k (k + 1)).size), (s.extract k (k + 1))[0] = s[k] := by
  have hs : (s.extract k (k + 1)).size = 1 := by rw [ByteArray.size_extract]; omega
  refine ⟨hs, fun h0 => ?_⟩
  have h2 : (s.extract k (k + 1)).data.toList[0]? = some s[k] := by
    rw [ByteArray.data_extract]
    simp only [Array.toList_extract, List.extract_eq_take_drop]
    rw [List.getElem?_take, if_pos (by omega), List.getElem?_drop]
    exact at_list s k h
  rw [at_list _ 0 h0] at h2
  injection h2
theorem codeS_at {s : ByteArray} {k : Nat} (h : k < s.size) : codeS (s.extract k (k + 1)) = if isLB s[k] = true then codeB s[k].toNat else [] := by
  obtain ⟨h1, h2⟩ := one_str s k h
  have h3 := h2 (by omega)
  unfold isLB
  by_cases hl : 97 ≤ s[k].toNat ∧ s[k].toNat ≤ 122
  · rw [decide_eq_true hl, if_pos rfl, codeS_one _ h1 (by rw [h3]; exact hl.1) (by rw [h3]; exact hl.2), h3]
  · rw [decide_eq_false hl, codeS_off _ h1 (by rw [h3]; exact hl)]; rfl
theorem cat_str (O C : List UInt8) : (⟨O.toArray⟩ : ByteArray) ++ ⟨#[48]⟩ ++ ⟨C.toArray⟩ = ⟨(O ++ 48 :: C).toArray⟩ := by
  apply ByteArray.ext; simp [ByteArray.data_append]
theorem cat_str0 (C : List UInt8) : (⟨#[]⟩ : ByteArray) ++ ⟨C.toArray⟩ = ⟨C.toArray⟩ := by
  apply ByteArray.ext; simp [ByteArray.data_append]
set_option maxRecDepth 100000 in
theorem specSo (s : ByteArray) (hs : s.size ≤ 1048576) (w : World) :
    Calls Tryd.prog 59 #[.string s] w (OfSPost s.data.toList w) := by
  have hlen : s.data.toList.length = s.size := by simp
  have HC := Lib.hid (fun t w => specCode t w)
  have HA := Lib.hid (fun k (h : k < s.size) => codeS_at h)
  have HS := Lib.hid (fun k (h : k < s.size) => ofTo_succ h)
  have HL := Lib.hid (fun k h => ofTo_len s k h)
  have HB : Hid (∀ k (h : k < s.size), isLB s[k] = false → ofR s.data.toList ⟨#[]⟩ false) := fun k h hc => ofR_no (ofOk_bad h hc)
  have HN : Hid (∀ (h : ¬ (s.size ≤ 12 ∧ (ofTo s.data.toList s.size).length ≤ 80)), ofR s.data.toList ⟨#[]⟩ false) := fun h => ofR_no (by
    rw [ofOk, hlen]
    have : (decide (s.size ≤ 12) && decide ((ofTo s.data.toList s.size).length ≤ 80)) = false := by
      rw [← Bool.decide_and]; exact decide_eq_false h
    rw [this]; simp)
  have HY : Hid (s.data.toList.all isLB = true → s.size ≤ 12 → (ofTo s.data.toList s.size).length ≤ 80 → ofR s.data.toList ⟨(ofTo s.data.toList s.size).toArray⟩ true) := fun h1 h2 h3 => by
    have e : ofOk s.data.toList = true := by rw [ofOk, hlen, h1, decide_eq_true h2, decide_eq_true h3]; rfl
    exact ⟨by rw [if_pos e, hlen], e.symm⟩
  clear hlen
  go_enter Tryd.func59, Tryd.ntmps59
  go_wp2_with fail
  go_loop [4, 5] (fun o i => ∃ k : Nat, k ≤ s.size ∧ i = .int .i64 k ∧ o = .string ⟨(ofTo s.data.toList k).toArray⟩ ∧ Hid ((s.data.toList.take k).all isLB = true)) (fun _ i => s.size - (intOf i).toNat)
  case atStart => exact ⟨0, by omega, rfl, rfl, by simp [Hid]⟩
  case round =>
    obtain ⟨k, hk, rfl, rfl, hall⟩ := hrel
    have hl := HL.out k hk
    by_cases hlt : k < s.size
    · have hk1 : k + 1 ≤ s.size := by omega
      have hat := Lib.hid (at_list s k hlt)
      have hcode := HC.out (s.extract k (k + 1))
      rw [HA.out k hlt] at hcode
      have hnx := HS.out k hlt
      cases hc : isLB s[k] with
      | false =>
        rw [hc] at hcode
        have hcode2 := Lib.hid (fun w => hcode w)
        have hR := Lib.hid (HB.out k hlt hc)
        clear hcode hc hnx
        go_wp2_with fail
        refine (hcode2.out _).mono ?_
        rintro e w1 ⟨rfl, rfl⟩
        go_wp2_with fail
        go_ret2
        exact ⟨_, _, rfl, hR.out, Below.refl _ _⟩
      | true =>
        rw [hc, if_pos rfl] at hcode
        have hcode2 := Lib.hid (fun w => hcode w)
        have hall2 : Hid ((s.data.toList.take (k + 1)).all isLB = true) := by
          show _ = _
          rw [all_take_succ hat.out, hall.out, hc]; rfl
        have hne := codeB_ne (c := s[k].toNat)
        have hcl := codeB_len s[k].toNat
        obtain ⟨C, hC⟩ : ∃ C, C = codeB s[k].toNat := ⟨_, rfl⟩
        rw [← hC] at hne hcl hcode2 hnx
        obtain ⟨O, hO⟩ : ∃ O, O = ofTo s.data.toList k := ⟨_, rfl⟩
        rw [← hO] at hnx hl ⊢
        have HO := Lib.hid hO
        clear hcode hc hC hO
        by_cases h0 : k = 0
        · subst h0
          rw [if_pos rfl] at hnx
          obtain rfl : O = [] := HO.out.trans (ofTo_zero _)
          replace hnx := Lib.hid hnx
          go_wp2_with fail
          refine (hcode2.out _).mono ?_
          rintro e w1 ⟨rfl, rfl⟩
          go_wp2_with fail
          go_round
          case rel => exact ⟨1, by omega, by go_num, by rw [hnx.out]; first | rfl | exact congrArg Value.string (cat_str0 C), hall2⟩
          case measure => simp [intOf]; omega
        · rw [if_neg h0] at hnx
          replace hnx := Lib.hid hnx
          have hki : (0 : Int) < (k : Int) := by omega
          go_wp2_with fail
          refine (hcode2.out _).mono ?_
          rintro e w1 ⟨rfl, rfl⟩
          go_wp2_with fail
          go_round
          case rel => exact ⟨k + 1, by omega, by go_num, by rw [hnx.out]; exact congrArg Value.string (cat_str O C), hall2⟩
          case measure => simp [intOf]; omega
    · obtain rfl : k = s.size := by omega
      have hall3 : Hid (s.data.toList.all isLB = true) := by
        have := hall.out
        rwa [List.take_of_length_le (by simp)] at this
      obtain ⟨m, hm⟩ : ∃ m, m = (ofTo s.data.toList s.size).length := ⟨_, rfl⟩
      have Hm := Lib.hid hm
      rw [← hm] at hl
      by_cases h12 : s.size ≤ 12
      · by_cases h80 : m ≤ 80
        · have hR := Lib.hid (HY.out hall3.out h12 (by rw [← hm]; exact h80))
          rw [hm] at h80
          clear hm hl
          go_wp2_with fail
          go_ret2
          exact ⟨_, _, rfl, hR.out, Below.refl _ _⟩
        · have hR := Lib.hid (HN.out (fun h => h80 (by rw [hm]; exact h.2)))
          rw [hm] at h80
          clear hm hl
          go_wp2_with fail
          go_ret2
          exact ⟨_, _, rfl, hR.out, Below.refl _ _⟩
      · have hR := Lib.hid (HN.out (fun h => h12 h.1))
        clear hm hl
        go_wp2_with fail
        go_ret2
        exact ⟨_, _, rfl, hR.out, Below.refl _ _⟩
end Go.Proofs.YtpldkfbglfcidaaDoor
