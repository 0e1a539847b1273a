/- SignalFar of the reference and of the program, walked. -/
import Derived.Test.YtpldkfbglfcidaaDoorSvI
namespace Go.Proofs.YtpldkfbglfcidaaDoor
set_option linter.unusedVariables false
set_option linter.unusedSimpArgs false
open Go.RowKit
def farTo (a b : List UInt8) : Nat → Nat
  | 0 => 0
  | k + 1 => farTo a b k + (if a[k]? = b[k]? then 0 else 1)
theorem farTo_le (a b : List UInt8) (k : Nat) : farTo a b k ≤ k := by
  induction k with
  | zero => exact Nat.le_refl _
  | succ k ih => rw [farTo]; split <;> omega
def farOk (a b : List UInt8) : Bool := sgValid a && (sgValid b && decide (a.length = b.length))
def farV (a b : List UInt8) : Int := if farOk a b = true then (farTo a b a.length : Int) else -1
theorem farV_off {a b : List UInt8} (h : farOk a b = false) : farV a b = -1 := by rw [farV, h]; rfl
theorem farV_on {a b : List UInt8} (h : farOk a b = true) : farV a b = farTo a b a.length := by rw [farV, if_pos h]
theorem far_same {a b : ByteArray} {k : Nat} (ha : k < a.size) (hb : k < b.size) (h : (a[k].toNat : Int) = b[k].toNat) : farTo a.data.toList b.data.toList (k + 1) = farTo a.data.toList b.data.toList k := by
  rw [farTo, at_list a k ha, at_list b k hb]
  have e : a[k] = b[k] := UInt8.toNat_inj.1 (by omega)
  rw [e, if_pos rfl]; rfl
theorem far_other {a b : ByteArray} {k : Nat} (ha : k < a.size) (hb : k < b.size) (h : ¬ (a[k].toNat : Int) = b[k].toNat) : farTo a.data.toList b.data.toList (k + 1) = farTo a.data.toList b.data.toList k + 1 := by
  rw [farTo, at_list a k ha, at_list b k hb]
  rw [if_neg]
  intro e
  injection e with e
  exact h (by rw [e])
theorem specSv' (s : ByteArray) (hs : s.size ≤ maxLen) (w : World) :
    Calls Tryd.prog 16 #[.string s] w fun e w' => e = .returned (.bool (sgValid s.data.toList)) ∧ Below w.heap.size w w' :=
  (specSv s hs w).mono fun _ _ ⟨he, hw⟩ => ⟨he, hw ▸ Below.refl _ _⟩
set_option maxRecDepth 100000 in
theorem specSf (a b : ByteArray) (ha : a.size ≤ maxLen) (hb : b.size ≤ maxLen) (w : World) :
    Calls Tryd.prog 18 #[.string a, .string b] w fun e w' => e = .returned (.int .i64 (farV a.data.toList b.data.toList)) ∧ Below w.heap.size w w' := by
  have HA := specSv' a ha
  have HB := specSv' b hb
  have hla : a.data.toList.length = a.size := by simp
  have hlb : b.data.toList.length = b.size := by simp
  cases va : sgValid a.data.toList with
  | false =>
    rw [va] at HA
    rw [farV_off (by rw [farOk, va]; rfl)]
    have H := Lib.hid HA
    clear HA HB va
    go_enter Tryd.func18, Tryd.ntmps18
    go_wp2_with fail
    refine (H.out _).mono ?_
    rintro e w1 ⟨rfl, hb1⟩
    go_wp2_with fail
    go_ret
    exact ⟨rfl, hb1⟩
  | true =>
    rw [va] at HA
    have H := Lib.hid HA
    cases vb : sgValid b.data.toList with
    | false =>
      rw [vb] at HB
      rw [farV_off (by rw [farOk, va, vb]; rfl)]
      have H2 := Lib.hid HB
      clear HA HB va vb
      go_enter Tryd.func18, Tryd.ntmps18
      go_wp2_with fail
      refine (H.out _).mono ?_
      rintro e w1 ⟨rfl, hb1⟩
      go_wp2_with fail
      refine (H2.out _).mono ?_
      rintro e w2 ⟨rfl, hb2⟩
      go_wp2_with fail
      go_ret
      exact ⟨rfl, hb1.trans (hb2.mono hb1.size)⟩
    | true =>
      rw [vb] at HB
      have H2 := Lib.hid HB
      by_cases hl : a.size = b.size
      · rw [farV_on (by rw [farOk, va, vb, hla, hlb, decide_eq_true hl]; rfl), hla]
        have h80 : a.size ≤ 80 := by
          unfold sgValid at va
          rw [Bool.and_eq_true, decide_eq_true_eq, hla] at va
          exact va.2
        have h80b : b.size ≤ 80 := by omega
        have Hl := Lib.hid hl
        have Hs : Hid (∀ k, (hk : k < a.size) → (hk' : k < b.size) → (a[k].toNat : Int) = b[k].toNat → farTo a.data.toList b.data.toList (k + 1) = farTo a.data.toList b.data.toList k) := fun k h1 h2 h3 => far_same h1 h2 h3
        have Ho : Hid (∀ k, (hk : k < a.size) → (hk' : k < b.size) → ¬ (a[k].toNat : Int) = b[k].toNat → farTo a.data.toList b.data.toList (k + 1) = farTo a.data.toList b.data.toList k + 1) := fun k h1 h2 h3 => far_other h1 h2 h3
        have t0 := nF (show (a.size : Int) = b.size by omega)
        clear HA HB va vb hla hlb ha hb hl
        go_enter Tryd.func18, Tryd.ntmps18
        go_wp2_with fail
        refine (H.out _).mono ?_
        rintro e w1 ⟨rfl, hb1⟩
        go_wp2_with fail
        refine (H2.out _).mono ?_
        rintro e w2 ⟨rfl, hb2⟩
        replace hb2 := hb1.trans (hb2.mono hb1.size)
        go_wp2_with fail
        go_loopw [5, 6] (fun n i wr => ∃ k x d : Nat, k ≤ a.size ∧ i = .int .i64 k ∧ n = .int .i64 x ∧ Hid (x = farTo a.data.toList b.data.toList k) ∧ wr = w2.drewN d) (fun _ i _ => a.size - (intOf i).toNat)
        case atStart => exact ⟨0, 0, 0, by omega, rfl, rfl, rfl, rfl⟩
        case round =>
          obtain ⟨k, x, d, hk, rfl, rfl, hx, hwd⟩ := hrel
          have hx80 : x ≤ 80 := by have := farTo_le a.data.toList b.data.toList k; have := hx.out; omega
          replace hwd := Lib.hid hwd
          by_cases hlt : k < a.size
          · have hltb : k < b.size := by have := Hl.out; omega
            by_cases hc : (a[k].toNat : Int) = b[k].toNat
            · have hn := Lib.hid (Hs.out k hlt hltb hc)
              have n0 := nF hc
              clear hc
              go_wp2_with fail
              go_quiet (fail)
              go_wp2_with fail
              go_roundw
              case rel => exact ⟨k + 1, x, _, by omega, by go_num, rfl, (by show _ = _; rw [hn.out]; exact hx.out), by rw [hwd.out, World.drewN_drewN]⟩
              case measure => simp [intOf]; omega
            · have hn := Lib.hid (Ho.out k hlt hltb hc)
              have n0 := nT hc
              clear hc
              go_wp2_with fail
              go_quiet (fail)
              go_wp2_with fail
              go_roundw
              case rel => exact ⟨k + 1, x + 1, _, by omega, by go_num, by go_num, (by show _ = _; rw [hn.out, hx.out]), by rw [hwd.out, World.drewN_drewN]⟩
              case measure => simp [intOf]; omega
          · obtain rfl : k = a.size := by omega
            go_wp2_with fail
            go_ret
            exact ⟨ret_int (by rw [hx.out]), by rw [hwd.out]; exact below_drewN hb2 _⟩
      · rw [farV_off (by rw [farOk, hla, hlb, decide_eq_false hl]; simp)]
        have t0 := nT (show ¬ (a.size : Int) = b.size by omega)
        clear HA HB va vb hla hlb
        go_enter Tryd.func18, Tryd.ntmps18
        go_wp2_with fail
        refine (H.out _).mono ?_
        rintro e w1 ⟨rfl, hb1⟩
        go_wp2_with fail
        refine (H2.out _).mono ?_
        rintro e w2 ⟨rfl, hb2⟩
        replace hb2 := hb1.trans (hb2.mono hb1.size)
        go_wp2_with fail
        go_ret
        exact ⟨rfl, hb2⟩
set_option maxRecDepth 100000 in
theorem implSf (a b : ByteArray) (ha : a.size ≤ maxLen) (hb : b.size ≤ maxLen) (w : World) :
    Calls Tryd.prog 19 #[.string a, .string b] w fun e w' => e = .returned (.int .i64 (farV a.data.toList b.data.toList)) ∧ Below w.heap.size w w' := by
  have HA := implSv a ha
  have HB := implSv b hb
  have hla : a.data.toList.length = a.size := by simp
  have hlb : b.data.toList.length = b.size := by simp
  cases va : sgValid a.data.toList with
  | false =>
    rw [va] at HA
    rw [farV_off (by rw [farOk, va]; rfl)]
    have H := Lib.hid HA
    clear HA HB va
    go_enter Tryd.func19, Tryd.ntmps19
    go_wp2_with fail
    refine (H.out _).mono ?_
    rintro e w1 ⟨rfl, hb1⟩
    go_wp2_with fail
    go_ret
    exact ⟨rfl, hb1⟩
  | true =>
    rw [va] at HA
    have H := Lib.hid HA
    cases vb : sgValid b.data.toList with
    | false =>
      rw [vb] at HB
      rw [farV_off (by rw [farOk, va, vb]; rfl)]
      have H2 := Lib.hid HB
      clear HA HB va vb
      go_enter Tryd.func19, Tryd.ntmps19
      go_wp2_with fail
      refine (H.out _).mono ?_
      rintro e w1 ⟨rfl, hb1⟩
      go_wp2_with fail
      refine (H2.out _).mono ?_
      rintro e w2 ⟨rfl, hb2⟩
      go_wp2_with fail
      go_ret
      exact ⟨rfl, hb1.trans (hb2.mono hb1.size)⟩
    | true =>
      rw [vb] at HB
      have H2 := Lib.hid HB
      by_cases hl : a.size = b.size
      · rw [farV_on (by rw [farOk, va, vb, hla, hlb, decide_eq_true hl]; rfl), hla]
        have h80 : a.size ≤ 80 := by
          unfold sgValid at va
          rw [Bool.and_eq_true, decide_eq_true_eq, hla] at va
          exact va.2
        have h80b : b.size ≤ 80 := by omega
        have Hl := Lib.hid hl
        have Hs : Hid (∀ k, (hk : k < a.size) → (hk' : k < b.size) → (a[k].toNat : Int) = b[k].toNat → farTo a.data.toList b.data.toList (k + 1) = farTo a.data.toList b.data.toList k) := fun k h1 h2 h3 => far_same h1 h2 h3
        have Ho : Hid (∀ k, (hk : k < a.size) → (hk' : k < b.size) → ¬ (a[k].toNat : Int) = b[k].toNat → farTo a.data.toList b.data.toList (k + 1) = farTo a.data.toList b.data.toList k + 1) := fun k h1 h2 h3 => far_other h1 h2 h3
        have t0 := nF (show (a.size : Int) = b.size by omega)
        clear HA HB va vb hla hlb ha hb hl
        go_enter Tryd.func19, Tryd.ntmps19
        go_wp2_with fail
        refine (H.out _).mono ?_
        rintro e w1 ⟨rfl, hb1⟩
        go_wp2_with fail
        refine (H2.out _).mono ?_
        rintro e w2 ⟨rfl, hb2⟩
        replace hb2 := hb1.trans (hb2.mono hb1.size)
        go_wp2_with fail
        go_loopw [5, 24] (fun n i wr => ∃ k x d : Nat, k ≤ a.size ∧ i = .int .i64 k ∧ n = .int .i64 x ∧ Hid (x = farTo a.data.toList b.data.toList k) ∧ wr = w2.drewN d) (fun _ i _ => a.size - (intOf i).toNat)
        case atStart => exact ⟨0, 0, 0, by omega, rfl, rfl, rfl, rfl⟩
        case round =>
          obtain ⟨k, x, d, hk, rfl, rfl, hx, hwd⟩ := hrel
          have hx80 : x ≤ 80 := by have := farTo_le a.data.toList b.data.toList k; have := hx.out; omega
          replace hwd := Lib.hid hwd
          by_cases hlt : k < a.size
          · have hltb : k < b.size := by have := Hl.out; omega
            by_cases hc : (a[k].toNat : Int) = b[k].toNat
            · have hn := Lib.hid (Hs.out k hlt hltb hc)
              have n0 := nF hc
              clear hc
              go_wp2_with fail
              go_quiet (fail)
              go_wp2_with fail
              go_roundw
              case rel => exact ⟨k + 1, x, _, by omega, by go_num, rfl, (by show _ = _; rw [hn.out]; exact hx.out), by rw [hwd.out, World.drewN_drewN]⟩
              case measure => simp [intOf]; omega
            · have hn := Lib.hid (Ho.out k hlt hltb hc)
              have n0 := nT hc
              clear hc
              go_wp2_with fail
              go_quiet (fail)
              go_wp2_with fail
              go_roundw
              case rel => exact ⟨k + 1, x + 1, _, by omega, by go_num, by go_num, (by show _ = _; rw [hn.out, hx.out]), by rw [hwd.out, World.drewN_drewN]⟩
              case measure => simp [intOf]; omega
          · obtain rfl : k = a.size := by omega
            go_wp2_with fail
            go_ret
            exact ⟨ret_int (by rw [hx.out]), by rw [hwd.out]; exact below_drewN hb2 _⟩
      · rw [farV_off (by rw [farOk, hla, hlb, decide_eq_false hl]; simp)]
        have t0 := nT (show ¬ (a.size : Int) = b.size by omega)
        clear HA HB va vb hla hlb
        go_enter Tryd.func19, Tryd.ntmps19
        go_wp2_with fail
        refine (H.out _).mono ?_
        rintro e w1 ⟨rfl, hb1⟩
        go_wp2_with fail
        refine (H2.out _).mono ?_
        rintro e w2 ⟨rfl, hb2⟩
        replace hb2 := hb1.trans (hb2.mono hb1.size)
        go_wp2_with fail
        go_ret
        exact ⟨rfl, hb2⟩
theorem specSfB (a b : ByteArray) (ha : a.size ≤ maxLen) (hb : b.size ≤ maxLen) (w : World) :
    Calls Tryd.prog 18 #[.string a, .string b] w fun e w' => ∃ r, e = .returned (.int .i64 r) ∧ r = farV a.data.toList b.data.toList ∧ Below w.heap.size w w' :=
  (specSf a b ha hb w).mono fun _ _ ⟨he, hw⟩ => ⟨_, he, rfl, hw⟩
theorem implSfB (a b : ByteArray) (ha : a.size ≤ maxLen) (hb : b.size ≤ maxLen) (w : World) :
    Calls Tryd.prog 19 #[.string a, .string b] w fun e w' => ∃ r, e = .returned (.int .i64 r) ∧ r = farV a.data.toList b.data.toList ∧ Below w.heap.size w w' :=
  (implSf a b ha hb w).mono fun _ _ ⟨he, hw⟩ => ⟨_, he, rfl, hw⟩
end Go.Proofs.YtpldkfbglfcidaaDoor
