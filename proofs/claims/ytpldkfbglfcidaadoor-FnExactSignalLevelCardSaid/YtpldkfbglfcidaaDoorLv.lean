/- SignalLevel of the reference and of the program, walked. -/
import Derived.Test.YtpldkfbglfcidaaDoorSd2
import Derived.Test.YtpldkfbglfcidaaDoorShelf105
namespace Go.Proofs.YtpldkfbglfcidaaDoor
set_option linter.unusedVariables false
set_option linter.unusedSimpArgs false
open Go.RowKit Go.Shelf
theorem many_odd (k m j n : Nat) (h : k + j * m = n) (ho : j % 2 = 1) : (k + m) + (j / 2) * (m + m) = n := by
  have e : j = 2 * (j / 2) + 1 := by omega
  generalize j / 2 = q at *
  subst e
  rw [← h, Nat.add_mul, Nat.mul_assoc, Nat.one_mul, Nat.mul_add]; omega
theorem many_even (k m j n : Nat) (h : k + j * m = n) (ho : j % 2 = 0) : k + (j / 2) * (m + m) = n := by
  have e : j = 2 * (j / 2) := by omega
  generalize j / 2 = q at *
  subst e
  rw [← h, Nat.mul_assoc, Nat.mul_add]; omega
theorem many_le (k m j n : Nat) (h : k + j * m = n) (h1 : 1 ≤ j) : m ≤ n := by
  have := Nat.mul_le_mul_right m h1; omega
theorem l6Many_any (c : UInt8) (n : Nat) (hn : n ≤ 100000) (w : World) :
    Calls Tryd.prog 47 #[.string ⟨#[c]⟩, .int .i64 n] w fun e w' => e = .returned (.string ⟨(List.replicate n c).toArray⟩) ∧ w = w' := by
  go_enter Tryd.func47, Tryd.ntmps47
  go_wp2_with fail
  go_loop [0, 1, 5] (fun s i o => ∃ k m j : Nat, s = .string ⟨(List.replicate m c).toArray⟩ ∧ i = .int .i64 j ∧ o = .string ⟨(List.replicate k c).toArray⟩ ∧ Hid (k + j * m = n) ∧ k ≤ n ∧ (1 ≤ j → m ≤ n) ∧ m ≤ 2 * n + 1 ∧ j ≤ n) (fun _ i _ => (intOf i).toNat)
  case atStart => exact ⟨0, 1, n, rfl, rfl, rfl, by simp [Hid], by omega, by omega, by omega, by omega⟩
  case round =>
    obtain ⟨k, m, j, rfl, rfl, rfl, hs, hk, hm, hm2, hj⟩ := hrel
    have happ : ∀ a b : Nat, (⟨(List.replicate a c).toArray⟩ : ByteArray) ++ ⟨(List.replicate b c).toArray⟩ = ⟨(List.replicate (a + b) c).toArray⟩ := fun a b => by
      apply ByteArray.ext; simp [ByteArray.data_append, List.replicate_append_replicate]
    replace happ := Lib.hid happ
    by_cases h0 : 0 < j
    · rcases Nat.mod_two_eq_zero_or_one j with h2 | h2
      · have h3 : ((j : Int) % 2 == 1) = false := by simp; omega
        have hnx := Lib.hid (many_even k m j n hs.out h2)
        clear h2
        have hmn := hm (by omega)
        go_wp2_with fail
        go_round
        case rel => exact ⟨k, m + m, j / 2, congrArg Value.string (happ.out m m), by go_num, rfl, hnx.out, hk, many_le _ _ _ _ hnx.out, by omega, by omega⟩
        case measure => simp [intOf]; omega
      · have h3 : ((j : Int) % 2 == 1) = true := by simp; omega
        have hnx := Lib.hid (many_odd k m j n hs.out h2)
        clear h2
        have hmn := hm (by omega)
        have hkm : k + m ≤ n := by have := hnx.out; omega
        go_wp2_with fail
        go_round
        case rel => exact ⟨k + m, m + m, j / 2, congrArg Value.string (happ.out m m), by go_num, congrArg Value.string (happ.out k m), hnx.out, hkm, many_le _ _ _ _ hnx.out, by omega, by omega⟩
        case measure => simp [intOf]; omega
    · obtain rfl : j = 0 := by omega
      go_wp2_with fail
      go_ret
      have := hs.out
      simp at this
      subst this
      exact ⟨rfl, rfl⟩

theorem l6Many_neg (c : UInt8) (n : Int) (hn : n < 0) (w : World) :
    Calls Tryd.prog 47 #[.string ⟨#[c]⟩, .int .i64 n] w fun e w' => e = .returned (.string ⟨(List.replicate 0 c).toArray⟩) ∧ w = w' := by
  go_enter Tryd.func47, Tryd.ntmps47
  go_wp2_with fail
  go_loop [0, 1, 5] (fun s i o => s = .string ⟨#[c]⟩ ∧ i = .int .i64 n ∧ o = .string ⟨#[]⟩) (fun _ _ _ => 0)
  case atStart => exact ⟨rfl, rfl, rfl⟩
  case round =>
    obtain ⟨rfl, rfl, rfl⟩ := hrel
    go_wp2_with fail
    go_ret
    exact ⟨rfl, rfl⟩
theorem repExtra : Builder.Extra Tryd.prog Tryd.lays105_ren := { sizeBuilder := by kernel_rfl, liesBuilder := by kernel_rfl, t5 := Tryd.underlying5, a5 := Tryd.isAgg5, z5 := Tryd.sizeOf5, v5 := Tryd.zeroValue5, infoByte := by kernel_rfl, cellsByte := by kernel_rfl, sizeByte := by kernel_rfl, neB5 := by decide }
theorem repeatL_one (c : UInt8) (n : Nat) : Lib.repeatL [c] n = List.replicate n c := by
  induction n with
  | zero => rfl
  | succ n ih => rw [Lib.repeatL, ih, List.replicate_succ]; rfl
theorem rep1 (c : UInt8) (n : Nat) (hn : n ≤ 1000) (w : World) :
    Calls Tryd.prog 48 #[.string ⟨#[c]⟩, .int .i64 n] w fun e w' => e = .returned (.string ⟨(List.replicate n c).toArray⟩) ∧ Below w.heap.size w w' := by
  have h := Any.strings_Repeat Tryd.lays105 repExtra ⟨#[c]⟩ n w (by omega) (by show 1 * n ≤ _; omega)
  have e : (⟨#[c]⟩ : ByteArray).data.toList = [c] := rfl
  rw [e, repeatL_one] at h
  exact h
theorem rep0 (c : UInt8) (w : World) :
    Calls Tryd.prog 48 #[.string ⟨#[c]⟩, .int .i64 0] w fun e w' => e = .returned (.string ⟨(List.replicate 0 c).toArray⟩) ∧ Below w.heap.size w w' := rep1 c 0 (by omega) w
/-- The signal that is level. -/
def levS (l : List UInt8) : List UInt8 := if driftTo l l.length = 0 then l else l ++ 48 :: (List.replicate (driftTo l l.length).toNat 45 ++ List.replicate (- driftTo l l.length).toNat 43)
def levOk (l : List UInt8) : Bool := sgValid l && decide ((levS l).length ≤ 80)
def levR (l : List UInt8) (r : ByteArray) (ok : Bool) : Prop := r = (if levOk l = true then ⟨(levS l).toArray⟩ else ⟨#[]⟩) ∧ ok = levOk l
theorem levR_one (l : List UInt8) : ∀ r ok r' ok', levR l r ok → levR l r' ok' → r = r' ∧ ok = ok' := fun _ _ _ _ h1 h2 => ⟨h1.1.trans h2.1.symm, h1.2.trans h2.2.symm⟩
def LevPost (l : List UInt8) (w : World) (e : Ending) (w' : World) : Prop := ∃ r ok, e = .returned (.tuple #[.string r, .bool ok]) ∧ levR l r ok ∧ Below w.heap.size w w'
theorem levR_bad {l : List UInt8} (h : sgValid l = false) : levR l ⟨#[]⟩ false := by
  have e : levOk l = false := by rw [levOk, h]; rfl
  exact ⟨by rw [e]; rfl, e.symm⟩
theorem levR_long {l : List UInt8} (h : 80 < (levS l).length) : levR l ⟨#[]⟩ false := by
  have e : levOk l = false := by rw [levOk, decide_eq_false (by omega)]; simp
  exact ⟨by rw [e]; rfl, e.symm⟩
theorem levR_ok {l : List UInt8} {T : ByteArray} (hv : sgValid l = true) (hT : T.data.toList = levS l) (h : (levS l).length ≤ 80) : levR l T true := by
  have e : levOk l = true := by rw [levOk, hv, decide_eq_true h]; rfl
  refine ⟨?_, e.symm⟩
  rw [if_pos e, ← hT]
theorem sgValid_lev {l : List UInt8} (hv : sgValid l = true) : sgValid (levS l) = decide ((levS l).length ≤ 80) := by
  have hall : l.all sgOk = true := by
    unfold sgValid at hv
    exact (Bool.and_eq_true_iff.1 hv).1
  have : (levS l).all sgOk = true := by
    unfold levS
    split
    · exact hall
    · rw [List.all_eq_true] at hall ⊢
      intro x hx
      rcases List.mem_append.1 hx with h | h
      · exact hall x h
      · rcases List.mem_cons.1 h with rfl | h
        · rfl
        · rcases List.mem_append.1 h with h | h
          · rw [(List.mem_replicate.1 h).2]; rfl
          · rw [(List.mem_replicate.1 h).2]; rfl
  rw [sgValid, this, Bool.true_and]
theorem specSv2 (s : ByteArray) (hs : s.size ≤ maxLen) (w : World) :
    Calls Tryd.prog 16 #[.string s] w fun e w' => e = .returned (.bool (sgValid s.data.toList)) ∧ Below w.heap.size w w' :=
  (specSv s hs w).mono fun _ _ ⟨he, hw⟩ => ⟨he, hw ▸ Below.refl _ _⟩
theorem specSvT (T : ByteArray) (L : List UInt8) (b : Bool) (hT : T.data.toList = L) (hb : sgValid L = b) (hl : L.length ≤ 1000) (w : World) :
    Calls Tryd.prog 16 #[.string T] w fun e w' => e = .returned (.bool b) ∧ Below w.heap.size w w' := by
  have hs : T.size ≤ maxLen := by
    have : T.data.toList.length = T.size := by simp
    rw [hT] at this
    unfold maxLen; omega
  have := specSv2 T hs w
  rwa [hT, hb] at this
set_option maxHeartbeats 1000000 in
set_option maxRecDepth 100000 in
theorem specLv (s : ByteArray) (hs : s.size ≤ maxLen) (w : World) :
    Calls Tryd.prog 30 #[.string s] w (LevPost s.data.toList w) := by
  have hlen : s.data.toList.length = s.size := by simp
  cases hv : sgValid s.data.toList with
  | false =>
    have H := Lib.hid (specSv2 s hs)
    rw [hv] at H
    have hR := Lib.hid (levR_bad hv)
    clear hv hlen
    go_enter Tryd.func30, Tryd.ntmps30
    go_wp2_with fail
    refine (H.out _).mono ?_
    rintro e w1 ⟨rfl, hb1⟩
    go_wp2_with fail
    go_ret2
    exact ⟨_, _, rfl, hR.out, hb1⟩
  | true =>
    have H := Lib.hid (specSv2 s hs)
    rw [hv] at H
    have h80 := sgValid_80 hv
    have HD := Lib.hid (specDr s h80)
    have HV := Lib.hid hv
    have hbd := driftTo_bd s.data.toList s.size
    obtain ⟨d, hd⟩ : ∃ d, d = driftTo s.data.toList s.size := ⟨_, rfl⟩
    have Hd := Lib.hid hd
    have hlast : Hid (∀ xs, xs = 0 :: drifts s.data.toList s.size → xs.length = s.size + 1 ∧ (True → xs[s.size]? = some d)) := fun xs hx => by
      subst hx
      refine ⟨by simp [drifts_length], fun h0 => ?_⟩
      rw [hd]
      cases hz : s.size with | zero => rfl | succ z => simp [drifts]
    rw [← hd] at hbd
    clear hv hd
    rcases Int.lt_trichotomy d 0 with hneg | hzero | hpos
    · obtain ⟨m, hm⟩ := Int.eq_ofNat_of_zero_le (show 0 ≤ -d by omega)
      obtain rfl : d = -(m : Int) := by omega
      have hm1 : 1 ≤ m := by omega
      have hm80 : m ≤ 80 := by omega
      have hS : levS s.data.toList = s.data.toList ++ 48 :: ([] ++ List.replicate m 43) := by
        unfold levS
        rw [hlen, ← Hd.out, if_neg (by omega)]
        simp
      have hSl : (levS s.data.toList).length = s.size + 1 + m := by rw [hS]; simp; omega
      have HSl := Lib.hid hSl
      have HS := Lib.hid hS
      have HVl := Lib.hid (sgValid_lev HV.out)
      have HRl : Hid (80 < s.size + 1 + m → levR s.data.toList ⟨#[]⟩ false) := fun h => levR_long (by rw [hSl]; exact h)
      have HRo : Hid (∀ T : ByteArray, T.data.toList = levS s.data.toList → s.size + 1 + m ≤ 80 → levR s.data.toList T true) := fun T hT h => levR_ok HV.out hT (by rw [hSl]; exact h)
      clear hS hSl hneg hm
      clear hlen
      go_enter Tryd.func30, Tryd.ntmps30
      go_wp2_with fail
      refine (H.out _).mono ?_
      rintro e w1 ⟨rfl, hb1⟩
      go_wp2_with fail
      refine (HD.out _).mono ?_
      rintro e w2 ⟨A, c, xs, rfl, hxs, hO, hb2⟩
      replace hb2 := hb1.trans (hb2.mono hb1.size)
      obtain ⟨hxl, hxd⟩ := hlast.out xs hxs
      have HXL := Lib.hid hxl
      have hOi := hO.iv
      rw [hxl]
      clear hxs hxl hO
      have hx0 := hxd trivial
      obtain ⟨b, off, rfl, _, hbB, hc⟩ := hOi (by rw [HXL.out]; omega)
      have d1 := hc _ _ hx0
      clear hx0 hxd hc hOi
      go_wp2_with fail
      refine (l6Many_neg 45 (-(m : Int)) (by omega) _).mono ?_
      rintro e w3 ⟨rfl, rfl⟩
      have hb3 := hb2
      go_wp2_with fail
      refine (l6Many_any 43 m (by omega) _).mono ?_
      rintro e w4 ⟨rfl, rfl⟩
      have hb4 := hb3
      go_wp2_with fail
      by_cases hle : s.size + 1 + m ≤ 80
      · refine (specSvT _ (levS s.data.toList) true (by rw [HS.out]; simp [ByteArray.data_append]) (by rw [HVl.out, HSl.out]; exact decide_eq_true hle) (by rw [HSl.out]; omega) _).mono ?_
        rintro e w5 ⟨rfl, hb5⟩
        go_wp2_with fail
        go_ret2
        exact ⟨_, _, rfl, HRo.out _ (by rw [HS.out]; simp [ByteArray.data_append]) hle, hb4.trans (hb5.mono hb4.size)⟩
      · refine (specSvT _ (levS s.data.toList) false (by rw [HS.out]; simp [ByteArray.data_append]) (by rw [HVl.out, HSl.out]; exact decide_eq_false hle) (by rw [HSl.out]; omega) _).mono ?_
        rintro e w5 ⟨rfl, hb5⟩
        go_wp2_with fail
        go_ret2
        exact ⟨_, _, rfl, HRl.out (by omega), hb4.trans (hb5.mono hb4.size)⟩
    · subst hzero
      have hS : levS s.data.toList = s.data.toList := by unfold levS; rw [hlen, ← Hd.out]; rfl
      have hR : Hid (levR s.data.toList s true) := levR_ok HV.out hS.symm (by rw [hS, hlen]; exact h80)
      clear hS
      clear hlen
      go_enter Tryd.func30, Tryd.ntmps30
      go_wp2_with fail
      refine (H.out _).mono ?_
      rintro e w1 ⟨rfl, hb1⟩
      go_wp2_with fail
      refine (HD.out _).mono ?_
      rintro e w2 ⟨A, c, xs, rfl, hxs, hO, hb2⟩
      replace hb2 := hb1.trans (hb2.mono hb1.size)
      obtain ⟨hxl, hxd⟩ := hlast.out xs hxs
      have HXL := Lib.hid hxl
      have hOi := hO.iv
      rw [hxl]
      clear hxs hxl hO
      have hx0 := hxd trivial
      obtain ⟨b, off, rfl, _, hbB, hc⟩ := hOi (by rw [HXL.out]; omega)
      have d1 := hc _ _ hx0
      clear hx0 hxd hc hOi
      go_wp2_with fail
      refine (H.out _).mono ?_
      rintro e w3 ⟨rfl, hb3⟩
      go_wp2_with fail
      go_ret2
      exact ⟨_, _, rfl, hR.out, hb2.trans (hb3.mono hb2.size)⟩
    · obtain ⟨m, hm⟩ := Int.eq_ofNat_of_zero_le (show 0 ≤ d by omega)
      obtain rfl : d = (m : Int) := by omega
      have hm1 : 1 ≤ m := by omega
      have hm80 : m ≤ 80 := by omega
      have hS : levS s.data.toList = s.data.toList ++ 48 :: (List.replicate m 45 ++ []) := by
        unfold levS
        rw [hlen, ← Hd.out, if_neg (by omega)]
        simp
      have hSl : (levS s.data.toList).length = s.size + 1 + m := by rw [hS]; simp; omega
      have HSl := Lib.hid hSl
      have HS := Lib.hid hS
      have HVl := Lib.hid (sgValid_lev HV.out)
      have HRl : Hid (80 < s.size + 1 + m → levR s.data.toList ⟨#[]⟩ false) := fun h => levR_long (by rw [hSl]; exact h)
      have HRo : Hid (∀ T : ByteArray, T.data.toList = levS s.data.toList → s.size + 1 + m ≤ 80 → levR s.data.toList T true) := fun T hT h => levR_ok HV.out hT (by rw [hSl]; exact h)
      clear hS hSl hpos hm
      clear hlen
      go_enter Tryd.func30, Tryd.ntmps30
      go_wp2_with fail
      refine (H.out _).mono ?_
      rintro e w1 ⟨rfl, hb1⟩
      go_wp2_with fail
      refine (HD.out _).mono ?_
      rintro e w2 ⟨A, c, xs, rfl, hxs, hO, hb2⟩
      replace hb2 := hb1.trans (hb2.mono hb1.size)
      obtain ⟨hxl, hxd⟩ := hlast.out xs hxs
      have HXL := Lib.hid hxl
      have hOi := hO.iv
      rw [hxl]
      clear hxs hxl hO
      have hx0 := hxd trivial
      obtain ⟨b, off, rfl, _, hbB, hc⟩ := hOi (by rw [HXL.out]; omega)
      have d1 := hc _ _ hx0
      clear hx0 hxd hc hOi
      go_wp2_with fail
      refine (l6Many_any 45 m (by omega) _).mono ?_
      rintro e w3 ⟨rfl, rfl⟩
      have hb3 := hb2
      go_wp2_with fail
      refine (l6Many_neg 43 (-(m : Int)) (by omega) _).mono ?_
      rintro e w4 ⟨rfl, rfl⟩
      have hb4 := hb3
      go_wp2_with fail
      by_cases hle : s.size + 1 + m ≤ 80
      · refine (specSvT _ (levS s.data.toList) true (by rw [HS.out]; simp [ByteArray.data_append]) (by rw [HVl.out, HSl.out]; exact decide_eq_true hle) (by rw [HSl.out]; omega) _).mono ?_
        rintro e w5 ⟨rfl, hb5⟩
        go_wp2_with fail
        go_ret2
        exact ⟨_, _, rfl, HRo.out _ (by rw [HS.out]; simp [ByteArray.data_append]) hle, hb4.trans (hb5.mono hb4.size)⟩
      · refine (specSvT _ (levS s.data.toList) false (by rw [HS.out]; simp [ByteArray.data_append]) (by rw [HVl.out, HSl.out]; exact decide_eq_false hle) (by rw [HSl.out]; omega) _).mono ?_
        rintro e w5 ⟨rfl, hb5⟩
        go_wp2_with fail
        go_ret2
        exact ⟨_, _, rfl, HRl.out (by omega), hb4.trans (hb5.mono hb4.size)⟩
set_option maxHeartbeats 1000000 in
set_option maxRecDepth 100000 in
theorem implLv (s : ByteArray) (hs : s.size ≤ maxLen) (w : World) :
    Calls Tryd.prog 31 #[.string s] w (LevPost s.data.toList w) := by
  have hlen : s.data.toList.length = s.size := by simp
  cases hv : sgValid s.data.toList with
  | false =>
    have H := Lib.hid (implSv s hs)
    rw [hv] at H
    have hR := Lib.hid (levR_bad hv)
    clear hv hlen
    go_enter Tryd.func31, Tryd.ntmps31
    go_wp2_with fail
    refine (H.out _).mono ?_
    rintro e w1 ⟨rfl, hb1⟩
    go_wp2_with fail
    go_ret2
    exact ⟨_, _, rfl, hR.out, hb1⟩
  | true =>
    have H := Lib.hid (implSv s hs)
    rw [hv] at H
    have h80 := sgValid_80 hv
    have HD := Lib.hid (implDr s h80)
    have HV := Lib.hid hv
    have hbd := driftTo_bd s.data.toList s.size
    obtain ⟨d, hd⟩ : ∃ d, d = driftTo s.data.toList s.size := ⟨_, rfl⟩
    have Hd := Lib.hid hd
    have hlast : Hid (∀ xs, xs = drifts s.data.toList s.size → xs.length = s.size ∧ (0 < s.size → xs[s.size - 1]? = some d)) := fun xs hx => by
      subst hx
      refine ⟨by simp [drifts_length], fun h0 => ?_⟩
      rw [hd]
      obtain ⟨z, hz⟩ : ∃ z, s.size = z + 1 := ⟨s.size - 1, by omega⟩; rw [hz]; simp [drifts]
    rw [← hd] at hbd
    clear hv hd
    rcases Int.lt_trichotomy d 0 with hneg | hzero | hpos
    · obtain ⟨m, hm⟩ := Int.eq_ofNat_of_zero_le (show 0 ≤ -d by omega)
      obtain rfl : d = -(m : Int) := by omega
      have hm1 : 1 ≤ m := by omega
      have hm80 : m ≤ 80 := by omega
      have hS : levS s.data.toList = s.data.toList ++ 48 :: ([] ++ List.replicate m 43) := by
        unfold levS
        rw [hlen, ← Hd.out, if_neg (by omega)]
        simp
      have hSl : (levS s.data.toList).length = s.size + 1 + m := by rw [hS]; simp; omega
      have HSl := Lib.hid hSl
      have HS := Lib.hid hS
      have HVl := Lib.hid (sgValid_lev HV.out)
      have HRl : Hid (80 < s.size + 1 + m → levR s.data.toList ⟨#[]⟩ false) := fun h => levR_long (by rw [hSl]; exact h)
      have HRo : Hid (∀ T : ByteArray, T.data.toList = levS s.data.toList → s.size + 1 + m ≤ 80 → levR s.data.toList T true) := fun T hT h => levR_ok HV.out hT (by rw [hSl]; exact h)
      clear hS hSl hneg hm
      clear hlen
      go_enter Tryd.func31, Tryd.ntmps31
      go_wp2_with fail
      refine (H.out _).mono ?_
      rintro e w1 ⟨rfl, hb1⟩
      go_wp2_with fail
      refine (HD.out _).mono ?_
      rintro e w2 ⟨A, c, xs, rfl, hxs, hO, hb2⟩
      replace hb2 := hb1.trans (hb2.mono hb1.size)
      obtain ⟨hxl, hxd⟩ := hlast.out xs hxs
      have HXL := Lib.hid hxl
      have hOi := hO.iv
      rw [hxl]
      clear hxs hxl hO
      have hmx1 : max (-(m : Int)) 0 = 0 := by omega
      have hmx2 : max (m : Int) 0 = m := by omega
      have h0 : 0 < s.size := by omega
      have hx0 := hxd h0
      have hneI : ¬ (s.size : Int) = 0 := by omega
      have hb0 := bF hneI
      have hneN : ¬ s.size = 0 := by omega
      clear hneI
      obtain ⟨b, off, rfl, _, hbB, hc⟩ := hOi (by rw [HXL.out]; omega)
      have d1 := hc _ _ hx0
      have hcast : ((s.size - 1 : Nat) : Int) = (s.size : Int) - 1 := by omega
      have e1 : IntKind.i64.wrap ((s.size : Int) - 1) = ((s.size - 1 : Nat) : Int) := by rw [hcast]; exact IntWalk.i64_in _ (by omega)
      have hlt1 : s.size - 1 < s.size := by omega
      clear hx0 hxd hc hOi
      go_wp2_with fail
      refine (rep0 45 _).mono ?_
      rintro e w3 ⟨rfl, hb3⟩
      replace hb3 := hb2.trans (hb3.mono hb2.size)
      go_wp2_with fail
      refine (rep1 43 m (by omega) _).mono ?_
      rintro e w4 ⟨rfl, hb4⟩
      replace hb4 := hb3.trans (hb4.mono hb3.size)
      by_cases hle : s.size + 1 + m ≤ 80
      · have hleI : ¬ (80 : Int) < (s.size : Int) + 1 + m := by omega
        go_wp2_with fail
        go_ret2
        exact ⟨_, _, rfl, HRo.out _ (by rw [HS.out]; simp [ByteArray.data_append]) hle, hb4⟩
      · have hleI : (80 : Int) < (s.size : Int) + 1 + m := by omega
        go_wp2_with fail
        go_ret2
        exact ⟨_, _, rfl, HRl.out (by omega), hb4⟩
    · subst hzero
      have hS : levS s.data.toList = s.data.toList := by unfold levS; rw [hlen, ← Hd.out]; rfl
      have hR : Hid (levR s.data.toList s true) := levR_ok HV.out hS.symm (by rw [hS, hlen]; exact h80)
      clear hS
      clear hlen
      go_enter Tryd.func31, Tryd.ntmps31
      go_wp2_with fail
      refine (H.out _).mono ?_
      rintro e w1 ⟨rfl, hb1⟩
      go_wp2_with fail
      refine (HD.out _).mono ?_
      rintro e w2 ⟨A, c, xs, rfl, hxs, hO, hb2⟩
      replace hb2 := hb1.trans (hb2.mono hb1.size)
      obtain ⟨hxl, hxd⟩ := hlast.out xs hxs
      have HXL := Lib.hid hxl
      have hOi := hO.iv
      rw [hxl]
      clear hxs hxl hO
      by_cases h0 : s.size = 0
      · have h0i : (s.size : Int) = 0 := by omega
        go_wp2_with fail
        go_ret2
        exact ⟨_, _, rfl, hR.out, hb2⟩
      have hx0 := hxd (by omega)
      have hb0 := bF (show ¬ (s.size : Int) = 0 by omega)
      obtain ⟨b, off, rfl, _, hbB, hc⟩ := hOi (by rw [HXL.out]; omega)
      have d1 := hc _ _ hx0
      have hcast : ((s.size - 1 : Nat) : Int) = (s.size : Int) - 1 := by omega
      have e1 : IntKind.i64.wrap ((s.size : Int) - 1) = ((s.size - 1 : Nat) : Int) := by rw [hcast]; exact IntWalk.i64_in _ (by omega)
      have hlt1 : s.size - 1 < s.size := by omega
      clear hx0 hxd hc hOi
      go_wp2_with fail
      go_ret2
      exact ⟨_, _, rfl, hR.out, hb2⟩
    · obtain ⟨m, hm⟩ := Int.eq_ofNat_of_zero_le (show 0 ≤ d by omega)
      obtain rfl : d = (m : Int) := by omega
      have hm1 : 1 ≤ m := by omega
      have hm80 : m ≤ 80 := by omega
      have hS : levS s.data.toList = s.data.toList ++ 48 :: (List.replicate m 45 ++ []) := by
        unfold levS
        rw [hlen, ← Hd.out, if_neg (by omega)]
        simp
      have hSl : (levS s.data.toList).length = s.size + 1 + m := by rw [hS]; simp; omega
      have HSl := Lib.hid hSl
      have HS := Lib.hid hS
      have HVl := Lib.hid (sgValid_lev HV.out)
      have HRl : Hid (80 < s.size + 1 + m → levR s.data.toList ⟨#[]⟩ false) := fun h => levR_long (by rw [hSl]; exact h)
      have HRo : Hid (∀ T : ByteArray, T.data.toList = levS s.data.toList → s.size + 1 + m ≤ 80 → levR s.data.toList T true) := fun T hT h => levR_ok HV.out hT (by rw [hSl]; exact h)
      clear hS hSl hpos hm
      clear hlen
      go_enter Tryd.func31, Tryd.ntmps31
      go_wp2_with fail
      refine (H.out _).mono ?_
      rintro e w1 ⟨rfl, hb1⟩
      go_wp2_with fail
      refine (HD.out _).mono ?_
      rintro e w2 ⟨A, c, xs, rfl, hxs, hO, hb2⟩
      replace hb2 := hb1.trans (hb2.mono hb1.size)
      obtain ⟨hxl, hxd⟩ := hlast.out xs hxs
      have HXL := Lib.hid hxl
      have hOi := hO.iv
      rw [hxl]
      clear hxs hxl hO
      have hmx1 : max (-(m : Int)) 0 = 0 := by omega
      have hmx2 : max (m : Int) 0 = m := by omega
      have h0 : 0 < s.size := by omega
      have hx0 := hxd h0
      have hneI : ¬ (s.size : Int) = 0 := by omega
      have hb0 := bF hneI
      have hneN : ¬ s.size = 0 := by omega
      clear hneI
      obtain ⟨b, off, rfl, _, hbB, hc⟩ := hOi (by rw [HXL.out]; omega)
      have d1 := hc _ _ hx0
      have hcast : ((s.size - 1 : Nat) : Int) = (s.size : Int) - 1 := by omega
      have e1 : IntKind.i64.wrap ((s.size : Int) - 1) = ((s.size - 1 : Nat) : Int) := by rw [hcast]; exact IntWalk.i64_in _ (by omega)
      have hlt1 : s.size - 1 < s.size := by omega
      clear hx0 hxd hc hOi
      go_wp2_with fail
      refine (rep1 45 m (by omega) _).mono ?_
      rintro e w3 ⟨rfl, hb3⟩
      replace hb3 := hb2.trans (hb3.mono hb2.size)
      go_wp2_with fail
      refine (rep0 43 _).mono ?_
      rintro e w4 ⟨rfl, hb4⟩
      replace hb4 := hb3.trans (hb4.mono hb3.size)
      by_cases hle : s.size + 1 + m ≤ 80
      · have hleI : ¬ (80 : Int) < (s.size : Int) + 1 + m := by omega
        go_wp2_with fail
        go_ret2
        exact ⟨_, _, rfl, HRo.out _ (by rw [HS.out]; simp [ByteArray.data_append]) hle, hb4⟩
      · have hleI : (80 : Int) < (s.size : Int) + 1 + m := by omega
        go_wp2_with fail
        go_ret2
        exact ⟨_, _, rfl, HRl.out (by omega), hb4⟩
end Go.Proofs.YtpldkfbglfcidaaDoor
