/- Plans, plain and walked: the program's planable (no forecast), permutation, planIn. -/
import Derived.Test.YtglncadfmomamaaPv2
namespace Go.Proofs.Ytglncadfmomamaa
set_option linter.unusedVariables false
set_option linter.unusedSimpArgs false
open Go.RowKit
set_option maxHeartbeats 4000000 in
set_option maxRecDepth 100000 in
theorem planable_no (s : ByteArray) (A : Option Addr) (n c : Nat) (hs : s.size ≤ maxLen) (hv : fcValid s.data.toList = false) (w : World) :
    Calls Try.prog 57 #[.string s, .slice A n c] w fun e w' => ∃ m, PlanP s.size m false w e w' := by
  have H := Lib.hid (forecastOf_no s hs hv)
  obtain ⟨z, hz⟩ : ∃ z, z = s.size := ⟨_, rfl⟩
  rw [← hz] at H ⊢
  clear hv hz
  go_enter Try.func57, Try.ntmps57
  go_wp2_with fail
  refine (H.out _).mono ?_
  rintro e w1 ⟨m, rfl, hb⟩
  have r4 := (Row.newS w 64 #[.int .u32 0, .int .i64 0] rfl rfl).below hb (by simp)
  have hb1 : Below w.heap.size w w1 := ((Below.refl _ _).alloc (Nat.le_refl _) _).trans (hb.mono (by simp))
  have hlt : w.heap.size < w1.heap.size := by have := hb.size; simp at this; omega
  clear hb
  go_wp2_with fail
  have r6 := Row.newS w1 64 #[.int .u32 m, .int .i64 z] rfl rfl
  replace r4 := r4.alloc (Obj.cells #[.int .u32 m, .int .i64 z] 64)
  have hbW := hb1.alloc hb1.size (Obj.cells #[.int .u32 m, .int .i64 z] 64)
  generalize w1.alloc (Obj.cells #[.int .u32 m, .int .i64 z] 64) = W at r4 r6 hbW ⊢
  obtain ⟨f0, f1, f2, f3⟩ := row2 r4
  obtain ⟨k0, k1, k2, k3⟩ := row2 r6
  have hp : Below w.heap.size w ((W.drew.setCell ⟨w.heap.size, 0, none⟩ (.int .u32 m)).setCell ⟨w.heap.size, 1, none⟩ (.int .i64 z)) ∧ Row ((W.drew.setCell ⟨w.heap.size, 0, none⟩ (.int .u32 m)).setCell ⟨w.heap.size, 1, none⟩ (.int .i64 z)) w.heap.size 64 [.int .u32 m, .int .i64 z] :=
    ⟨(hbW.drew.setCell (Nat.le_refl _) _).setCell (Nat.le_refl _) _, ((r4.drew).set 0 _).set 1 _⟩
  obtain ⟨hbf, hrf⟩ := hp
  have hq : ((W.drew.setCell ⟨w.heap.size, 0, none⟩ (.int .u32 m)).setCell ⟨w.heap.size, 1, none⟩ (.int .i64 z)).cell? ⟨w1.heap.size, 0, none⟩ = some (.int .u32 m) ∧ ((W.drew.setCell ⟨w.heap.size, 0, none⟩ (.int .u32 m)).setCell ⟨w.heap.size, 1, none⟩ (.int .i64 z)).cell? ⟨w1.heap.size, 1, none⟩ = some (.int .i64 z) := by
    have := (r6.drew.far (p := ⟨w.heap.size, 0, none⟩) (by simp; omega) (.int .u32 m)).far (p := ⟨w.heap.size, 1, none⟩) (by simp; omega) (.int .i64 z)
    exact ⟨this.cellI rfl, this.cellI rfl⟩
  obtain ⟨p4, p5⟩ := hq
  clear r4 r6 hbW
  refine wp_region_held_drew (S := fun w' => w'.cell? ⟨w1.heap.size, 0, none⟩ = some (.int .u32 m) ∧ w'.cell? ⟨w1.heap.size, 1, none⟩ = some (.int .i64 z)) (by kernel_rfl) ⟨k0, k1⟩ (fun hHeld => ?_)
  refine wpAnyH_take (i := 0) (v := .agg #[.int .u32 m, .int .i64 z]) rfl (by kernel_rfl) (by kernel_rfl) (by kernel_rfl) (fun _ _ _ h => h) (Or.inl ⟨by kernel_rfl, fun w hSw => by (try dsimp only at hSw); go_simp⟩) hHeld ?_
  try simp only [Act.put, List.setIfInBounds_toArray, List.set_cons_zero, List.set_cons_succ]
  refine wpAnyH_take (i := 1) (v := .bool false) rfl (by kernel_rfl) (by kernel_rfl) (by kernel_rfl) (fun _ _ _ h => h) (Or.inl ⟨by kernel_rfl, fun w hSw => by (try dsimp only at hSw); go_simp⟩) hHeld ?_
  try simp only [Act.put, List.setIfInBounds_toArray, List.set_cons_zero, List.set_cons_succ]
  refine wpAnyH_take (i := 2) (v := .bool false) rfl (by kernel_rfl) (by kernel_rfl) (by kernel_rfl) (fun _ _ _ h => h) (Or.inl ⟨by kernel_rfl, fun w hSw => by (try dsimp only at hSw); go_simp⟩) hHeld ?_
  try simp only [Act.put, List.setIfInBounds_toArray, List.set_cons_zero, List.set_cons_succ]
  refine wpAnyH_take (i := 3) (v := undef) rfl (by kernel_rfl) (by kernel_rfl) (by kernel_rfl) (fun _ _ _ h => h) (Or.inr ⟨by kernel_rfl, rfl⟩) hHeld ?_
  try simp only [Act.put, List.setIfInBounds_toArray, List.set_cons_zero, List.set_cons_succ]
  refine wpAnyH_take (i := 4) (v := undef) rfl (by kernel_rfl) (by kernel_rfl) (by kernel_rfl) (fun _ _ _ h => h) (Or.inr ⟨by kernel_rfl, rfl⟩) hHeld ?_
  try simp only [Act.put, List.setIfInBounds_toArray, List.set_cons_zero, List.set_cons_succ]
  refine wpAnyH_take (i := 5) (v := .bool false) rfl (by kernel_rfl) (by kernel_rfl) (by kernel_rfl) (fun _ _ _ h => h) (Or.inl ⟨by kernel_rfl, fun w hSw => by (try dsimp only at hSw); go_simp⟩) hHeld ?_
  try simp only [Act.put, List.setIfInBounds_toArray, List.set_cons_zero, List.set_cons_succ]
  refine wpAnyH_take (i := 6) (v := .bool false) rfl (by kernel_rfl) (by kernel_rfl) (by kernel_rfl) (fun _ _ _ h => h) (Or.inl ⟨by kernel_rfl, fun w hSw => by (try dsimp only at hSw); go_simp⟩) hHeld ?_
  try simp only [Act.put, List.setIfInBounds_toArray, List.set_cons_zero, List.set_cons_succ]
  refine wpAnyH_take (i := 7) (v := undef) rfl (by kernel_rfl) (by kernel_rfl) (by kernel_rfl) (fun _ _ _ h => h) (Or.inr ⟨by kernel_rfl, rfl⟩) hHeld ?_
  try simp only [Act.put, List.setIfInBounds_toArray, List.set_cons_zero, List.set_cons_succ]
  refine wpAnyH_take (i := 8) (v := undef) rfl (by kernel_rfl) (by kernel_rfl) (by kernel_rfl) (fun _ _ _ h => h) (Or.inr ⟨by kernel_rfl, rfl⟩) hHeld ?_
  try simp only [Act.put, List.setIfInBounds_toArray, List.set_cons_zero, List.set_cons_succ]
  refine wpAnyH_take (i := 9) (v := undef) rfl (by kernel_rfl) (by kernel_rfl) (by kernel_rfl) (fun _ _ _ h => h) (Or.inr ⟨by kernel_rfl, rfl⟩) hHeld ?_
  try simp only [Act.put, List.setIfInBounds_toArray, List.set_cons_zero, List.set_cons_succ]
  refine wpAnyH_take (i := 10) (v := undef) rfl (by kernel_rfl) (by kernel_rfl) (by kernel_rfl) (fun _ _ _ h => h) (Or.inr ⟨by kernel_rfl, rfl⟩) hHeld ?_
  try simp only [Act.put, List.setIfInBounds_toArray, List.set_cons_zero, List.set_cons_succ]
  refine wpAnyH_take (i := 11) (v := undef) rfl (by kernel_rfl) (by kernel_rfl) (by kernel_rfl) (fun _ _ _ h => h) (Or.inr ⟨by kernel_rfl, rfl⟩) hHeld ?_
  try simp only [Act.put, List.setIfInBounds_toArray, List.set_cons_zero, List.set_cons_succ]
  refine wpAnyH_take (i := 12) (v := undef) rfl (by kernel_rfl) (by kernel_rfl) (by kernel_rfl) (fun _ _ _ h => h) (Or.inr ⟨by kernel_rfl, rfl⟩) hHeld ?_
  try simp only [Act.put, List.setIfInBounds_toArray, List.set_cons_zero, List.set_cons_succ]
  refine wpAnyH_take (i := 13) (v := undef) rfl (by kernel_rfl) (by kernel_rfl) (by kernel_rfl) (fun _ _ _ h => h) (Or.inr ⟨by kernel_rfl, rfl⟩) hHeld ?_
  try simp only [Act.put, List.setIfInBounds_toArray, List.set_cons_zero, List.set_cons_succ]
  refine wpAnyH_take (i := 14) (v := .bool false) rfl (by kernel_rfl) (by kernel_rfl) (by kernel_rfl) (fun _ _ _ h => h) (Or.inl ⟨by kernel_rfl, fun w hSw => by (try dsimp only at hSw); go_simp⟩) hHeld ?_
  try simp only [Act.put, List.setIfInBounds_toArray, List.set_cons_zero, List.set_cons_succ]
  refine wpAnyH_ready (rs := [15]) (by kernel_rfl) (by simp) ?_
  refine AllReadyH.cons rfl (fun K hK => ?_) AllReadyH.nil
  go_simp
  refine hK.out _ _ ⟨p4, p5⟩ (fun hHeld => ?_)
  clear hK
  try simp only [Act.put, List.setIfInBounds_toArray, List.set_cons_zero, List.set_cons_succ]
  refine wpAnyH_ready (rs := [16]) (by kernel_rfl) (by simp) ?_
  refine AllReadyH.cons rfl (fun K hK => ?_) AllReadyH.nil
  go_simp
  refine hK.out _ _ ⟨p4, p5⟩ (fun hHeld => ?_)
  clear hK
  try simp only [Act.put, List.setIfInBounds_toArray, List.set_cons_zero, List.set_cons_succ]
  refine wpAnyH_done (by kernel_rfl) ?_ _
  go_wp2_with fail
  exact ret_row_tmp rfl w.heap.size 64 [.int .u32 m, .int .i64 z] _ rfl hrf Try.underlying64 rfl (by kernel_rfl) rfl ⟨m, rfl, hbf⟩
def planV (l : List UInt8) (J : List Jb) : Bool := fcValid l && planOk l J
def PlanT (l : List UInt8) (ok : Bool) (w : World) (e : Ending) (w' : World) : Prop := ∃ m : Nat, (ok = true → m = maskL l) ∧ PlanP l.length m ok w e w'
theorem planable_any (s : ByteArray) (A : Option Addr) (c : Nat) (J : List Jb) (hs : s.size ≤ maxLen) (hJn : J.length ≤ 1048576) (w : World) (hJ : Jbs w w.heap.size A J) :
    Calls Try.prog 57 #[.string s, .slice A J.length c] w (PlanT s.data.toList (planV s.data.toList J) w) := by
  have hlen : s.data.toList.length = s.size := by simp
  by_cases hv : fcValid s.data.toList = true
  · obtain ⟨h1, h2⟩ := (fcValid_iff s).1 hv
    refine (planable_f s A c J h2 h1 hJn w hJ).mono fun e w' h => ?_
    unfold PlanT planV
    rw [hv, Bool.true_and, hlen]
    exact ⟨_, fun _ => rfl, h⟩
  · have hv : fcValid s.data.toList = false := by simpa using hv
    refine (planable_no s A J.length c hs hv w).mono fun e w' ⟨m, h⟩ => ?_
    unfold PlanT planV
    rw [hv, Bool.false_and, hlen]
    exact ⟨m, fun h => (by cases h), h⟩
theorem ofInt_i64 (a : Nat) (ha : a < 9223372036854775808) : (BitVec.ofInt 64 (a : Int)).toNat = a := by
  rw [BitVec.ofInt_natCast, BitVec.toNat_ofNat]; exact Nat.mod_eq_of_lt (by omega)
theorem i64_or_nat (a b : Nat) (ha : a < 9223372036854775808) (hb : b < 9223372036854775808) : bits .or .i64 (a : Int) (b : Int) = ((a ||| b : Nat) : Int) := by
  have hx : a ||| b < 2 ^ 63 := Nat.or_lt_two_pow (by omega) (by omega)
  show IntKind.i64.wrap ((BitVec.ofInt 64 (a : Int) ||| BitVec.ofInt 64 (b : Int)).toNat : Int) = _
  rw [BitVec.toNat_or, ofInt_i64 a ha, ofInt_i64 b hb, IntKind.wrap_i64]
  omega
theorem i64_and_nat (a b : Nat) (ha : a < 9223372036854775808) (hb : b < 9223372036854775808) : bits .and .i64 (a : Int) (b : Int) = ((a &&& b : Nat) : Int) := by
  have hx : a &&& b < 2 ^ 63 := Nat.and_lt_two_pow _ (by omega)
  show IntKind.i64.wrap ((BitVec.ofInt 64 (a : Int) &&& BitVec.ofInt 64 (b : Int)).toNat : Int) = _
  rw [BitVec.toNat_and, ofInt_i64 a ha, ofInt_i64 b hb, IntKind.wrap_i64]
  omega
theorem wrap_nat (q : Nat) (h : q < 9223372036854775808) : wrap64 (q : Int) = q := IntWalk.wrap64_in _ (by omega)
theorem bit_and (m p : Nat) (hm : m < 4611686018427387904) : bits .and .i64 ((m : Int) / 2 ^ p) 1 = if m.testBit p then 1 else 0 := by
  have e : (m : Int) / 2 ^ p = ((m / 2 ^ p : Nat) : Int) := by rw [Int.natCast_ediv]; simp
  have hle : m / 2 ^ p ≤ m := Nat.div_le_self _ _
  have := i64_and_nat (m / 2 ^ p) 1 (by omega) (by omega)
  rw [e, show (1 : Int) = ((1 : Nat) : Int) from rfl, this, Nat.and_one_is_mod, Nat.testBit_eq_decide_div_mod_eq]
  by_cases h : m / 2 ^ p % 2 = 1
  · rw [h]; simp
  · have : m / 2 ^ p % 2 = 0 := by omega
    rw [this]; simp
theorem bit_t {m p : Nat} (hm : m < 4611686018427387904) (h : m.testBit p = true) : bits .and .i64 ((m : Int) / 2 ^ p) 1 = 1 := by rw [bit_and m p hm, h]; rfl
theorem bit_f {m p : Nat} (hm : m < 4611686018427387904) (h : m.testBit p = false) : bits .and .i64 ((m : Int) / 2 ^ p) 1 = 0 := by rw [bit_and m p hm, h]; rfl
set_option maxRecDepth 100000 in
theorem perm_any (A : Option Addr) (c lo : Nat) (xs : List Int) (hn : xs.length ≤ 60) (w : World) (h : Iv w lo w.heap.size A xs) :
    Calls Try.prog 87 #[.slice A xs.length c] w fun e w' => e = .returned (.bool (permB xs)) ∧ w = w' := by
  obtain ⟨n, hnl⟩ : ∃ n, n = xs.length := ⟨_, rfl⟩
  obtain ⟨R, hr⟩ : ∃ r, r = permB xs := ⟨_, rfl⟩
  have Hn := Lib.hid hnl
  have HR := Lib.hid hr
  rw [← hr]
  rw [← hnl] at hn ⊢
  clear hnl hr
  have Hno : Hid (permB xs = false → R = false) := fun h => HR.out.trans h
  go_enter Try.func87, Try.ntmps87
  go_wp2_with fail
  go_loop [3, 8] (fun a i => ∃ (k m : Nat), k ≤ n ∧ i = .int .i64 k ∧ a = .int .i64 m ∧ m < 1152921504606846976 ∧ Hid (PreP xs k ∧ ∀ j : Nat, m.testBit j = decide ((j : Int) ∈ xs.take k))) (fun _ i => n - (intOf i).toNat)
  case atStart => exact ⟨0, 0, by omega, rfl, rfl, by omega, PreP.zero _, by simp⟩
  case round =>
    obtain ⟨k, m, hk, rfl, rfl, hm, hall⟩ := hrel
    by_cases hlt : k < n
    · obtain ⟨b, off, rfl, _, hb, hc⟩ := h (by rw [← Hn.out]; omega)
      obtain ⟨y, hy⟩ : ∃ y, xs[k]? = some y := ⟨xs[k]'(by rw [← Hn.out]; exact hlt), List.getElem?_eq_getElem _⟩
      have c1 := hc k y hy
      replace hy := Lib.hid hy
      obtain ⟨r, h1⟩ : ∃ r, inB y 0 (n - 1) = r := ⟨_, rfl⟩
      replace h1 := Lib.hid h1
      clear hc
      cases r with
      | false =>
        have hR : Hid (R = false) := Hno.out (permB_out hy.out (fun h => by
          have : inB y 0 (n - 1) = true := inB_iff.2 ⟨h.1, by have := Hn.out; omega⟩
          rw [h1.out] at this; cases this))
        go_wp2_with fail
        refine (within_b _ _ _ _ h1.out _).mono ?_
        rintro e w4 ⟨rfl, rfl⟩
        go_wp2_with fail
        go_ret
        exact ⟨ret_bool hR.out.symm, rfl⟩
      | true =>
        obtain ⟨hy0, hyn⟩ := inB_iff.1 h1.out
        obtain ⟨p, rfl⟩ := Int.eq_ofNat_of_zero_le hy0
        have hp : p < 60 := by omega
        have hp63 : p < 63 := by omega
        have hp64 : p < 64 := by omega
        have hpp : 2 ^ p < 2 ^ 60 := Nat.pow_lt_pow_right (by omega) hp
        have ho : bits .or .i64 (m : Int) ((2 : Int) ^ p) = ((m ||| 2 ^ p : Nat) : Int) := by
          rw [← i64_or_nat m (2 ^ p) (by omega) (by omega)]; simp
        have hmo : m ||| 2 ^ p < 2 ^ 60 := Nat.or_lt_two_pow hm hpp
        have hout := hall.out
        cases ht : m.testBit p with
        | true =>
          have hbt := bit_t (p := p) (by omega) ht
          have hR : Hid (R = false) := Hno.out (permB_twice hy.out (by have h3 := hout.2 p; rw [ht] at h3; exact of_decide_eq_true h3.symm))
          clear hpp hmo ho hout ht
          go_wp2_with fail
          refine (within_b _ _ _ _ h1.out _).mono ?_
          rintro e w4 ⟨rfl, rfl⟩
          go_wp2_with fail
          go_ret
          exact ⟨ret_bool hR.out.symm, rfl⟩
        | false =>
          have hbt := bit_f (p := p) (by omega) ht
          have hw64 : wrap64 ((2 : Int) ^ p) = (2 : Int) ^ p := by
            have h1 : (2 : Int) ^ p = ((2 ^ p : Nat) : Int) := by simp
            rw [h1]; exact wrap_nat _ (Nat.lt_of_lt_of_le hpp (by decide))
          have hnx : Hid (PreP xs (k + 1) ∧ ∀ j : Nat, (m ||| 2 ^ p).testBit j = decide ((j : Int) ∈ xs.take (k + 1))) := by
            have h3 := hout.2 p
            rw [ht] at h3
            refine ⟨hout.1.succ hy.out hy0 (by have := Hn.out; omega) (of_decide_eq_false h3.symm), fun j => ?_⟩
            rw [Nat.testBit_or, hout.2 j, Nat.testBit_two_pow, List.take_add_one, hy.out]
            by_cases hj : p = j
            · subst hj; simp
            · have : ¬ (j : Int) = (p : Int) := by omega
              simp [hj, this]
          replace hmo := Lib.hid hmo
          clear hpp hout ht
          go_wp2_with fail
          refine (within_b _ _ _ _ h1.out _).mono ?_
          rintro e w4 ⟨rfl, rfl⟩
          go_wp2_with fail
          go_round
          case rel => exact ⟨k + 1, m ||| 2 ^ p, by omega, by go_num, by first | rfl | rw [hw64, ho], hmo.out, hnx.out⟩
          case measure => simp [intOf]; omega
    · obtain rfl : k = n := by omega
      have hR : Hid (R = true) := by
        have h2 := hall.out.1
        rw [Hn.out] at h2
        exact HR.out.trans h2.whole
      go_wp2_with fail
      go_ret
      exact ⟨ret_bool hR.out.symm, rfl⟩
def planInV (l : List UInt8) (J : List Jb) (P : List Int) : Bool := planV l J && (P.length == J.length && permB P)
set_option maxHeartbeats 4000000 in
set_option maxRecDepth 100000 in
theorem planIn_any (s : ByteArray) (A AP : Option Addr) (c cP lo : Nat) (J : List Jb) (P : List Int) (hs : s.size ≤ maxLen) (hJn : J.length ≤ 1048576) (hPn : P.length ≤ maxLen) (w : World) (hJ : Jbs w w.heap.size A J) (hP : Iv w lo w.heap.size AP P) :
    Calls Try.prog 69 #[.string s, .slice A J.length c, .slice AP P.length cP] w (PlanT s.data.toList (planInV s.data.toList J P) w) := by
  have H := Lib.hid (fun w' (h : Jbs w' w'.heap.size A J) => planable_any s A c J hs hJn w' h)
  obtain ⟨ok, hok⟩ : ∃ r, r = planV s.data.toList J := ⟨_, rfl⟩
  have hJ6 : ok = true → J.length ≤ 6 := fun h => by
    rw [hok] at h
    simp only [planV, planOk, Bool.and_eq_true] at h
    exact (jobsOk_n h.2.1).1
  have Hok : Hid (planInV s.data.toList J P = (ok && (P.length == J.length && permB P))) := by show _ = _; rw [planInV, ← hok]
  rw [← hok] at H
  obtain ⟨pr, hpr⟩ : ∃ r, r = permB P := ⟨_, rfl⟩
  have HPm := Lib.hid (fun (hn : P.length ≤ 60) w' (h : Iv w' lo w'.heap.size AP P) => perm_any AP cP lo P hn w' h)
  rw [← hpr] at HPm Hok
  obtain ⟨z, hz⟩ : ∃ z, z = s.data.toList.length := ⟨_, rfl⟩
  have hzl := Lib.hid hz
  obtain ⟨n, hn⟩ : ∃ n, n = J.length := ⟨_, rfl⟩
  rw [← hn] at H hJ6 hJn Hok ⊢
  obtain ⟨np, hnp⟩ : ∃ n, n = P.length := ⟨_, rfl⟩
  rw [← hnp] at HPm Hok hPn ⊢
  obtain ⟨R, hR⟩ : ∃ R, R = planInV s.data.toList J P := ⟨_, rfl⟩
  rw [← hR] at Hok ⊢
  clear hn hnp hpr hok hz hR
  go_enter Try.func69, Try.ntmps69
  go_wp2_with fail
  refine (H.out _ ((hJ.below ((Below.refl w.heap.size w).alloc (Nat.le_refl _) _)).more (by simp))).mono ?_
  rintro e w1 ⟨m, hm, rfl, hb⟩
  rw [← hzl.out]
  replace hm := Lib.hid hm
  have r4 := (Row.newS w 64 #[.int .u32 0, .int .i64 0] rfl rfl).below hb (by simp)
  have hb1 : Below w.heap.size w w1 := ((Below.refl _ _).alloc (Nat.le_refl _) _).trans (hb.mono (by simp))
  have hlt : w.heap.size < w1.heap.size := by have := hb.size; simp at this; omega
  clear hb
  go_wp2_with fail
  have r6 := Row.newS w1 64 #[.int .u32 m, .int .i64 z] rfl rfl
  replace r4 := r4.alloc (Obj.cells #[.int .u32 m, .int .i64 z] 64)
  have hbW := hb1.alloc hb1.size (Obj.cells #[.int .u32 m, .int .i64 z] 64)
  generalize w1.alloc (Obj.cells #[.int .u32 m, .int .i64 z] 64) = W at r4 r6 hbW ⊢
  obtain ⟨f0, f1, f2, f3⟩ := row2 r4
  obtain ⟨k0, k1, k2, k3⟩ := row2 r6
  have hp : Below w.heap.size w ((W.drew.setCell ⟨w.heap.size, 0, none⟩ (.int .u32 m)).setCell ⟨w.heap.size, 1, none⟩ (.int .i64 z)) ∧ Row ((W.drew.setCell ⟨w.heap.size, 0, none⟩ (.int .u32 m)).setCell ⟨w.heap.size, 1, none⟩ (.int .i64 z)) w.heap.size 64 [.int .u32 m, .int .i64 z] :=
    ⟨(hbW.drew.setCell (Nat.le_refl _) _).setCell (Nat.le_refl _) _, ((r4.drew).set 0 _).set 1 _⟩
  obtain ⟨hbf, hrf⟩ := hp
  have hq : ((W.drew.setCell ⟨w.heap.size, 0, none⟩ (.int .u32 m)).setCell ⟨w.heap.size, 1, none⟩ (.int .i64 z)).cell? ⟨w1.heap.size, 0, none⟩ = some (.int .u32 m) ∧ ((W.drew.setCell ⟨w.heap.size, 0, none⟩ (.int .u32 m)).setCell ⟨w.heap.size, 1, none⟩ (.int .i64 z)).cell? ⟨w1.heap.size, 1, none⟩ = some (.int .i64 z) := by
    have := (r6.drew.far (p := ⟨w.heap.size, 0, none⟩) (by simp; omega) (.int .u32 m)).far (p := ⟨w.heap.size, 1, none⟩) (by simp; omega) (.int .i64 z)
    exact ⟨this.cellI rfl, this.cellI rfl⟩
  obtain ⟨p4, p5⟩ := hq
  have HIW := Lib.hid (show Iv W.drew lo W.drew.heap.size AP P from (hP.below hbW (Nat.le_refl _)).more (Nat.le_refl _) hbW.size)
  clear r4 r6 hbW
  cases ok with
  | false =>
    obtain rfl : R = false := by rw [Hok.out]; rfl
    have Hfin : Hid (false = true → m = maskL s.data.toList) := fun h => by cases h
    refine wp_region_held_drew (S := fun w' => w'.cell? ⟨w1.heap.size, 0, none⟩ = some (.int .u32 m) ∧ w'.cell? ⟨w1.heap.size, 1, none⟩ = some (.int .i64 z)) (by kernel_rfl) ⟨k0, k1⟩ (fun hHeld => ?_)
    refine wpAnyH_take (i := 0) (v := .agg #[.int .u32 m, .int .i64 z]) rfl (by kernel_rfl) (by kernel_rfl) (by kernel_rfl) (fun _ _ _ h => h) (Or.inl ⟨by kernel_rfl, fun w hSw => by (try dsimp only at hSw); go_simp⟩) hHeld ?_
    try simp only [Act.put, List.setIfInBounds_toArray, List.set_cons_zero, List.set_cons_succ]
    refine wpAnyH_take (i := 1) (v := .bool false) rfl (by kernel_rfl) (by kernel_rfl) (by kernel_rfl) (fun _ _ _ h => h) (Or.inl ⟨by kernel_rfl, fun w hSw => by (try dsimp only at hSw); go_simp⟩) hHeld ?_
    try simp only [Act.put, List.setIfInBounds_toArray, List.set_cons_zero, List.set_cons_succ]
    refine wpAnyH_take (i := 2) (v := .bool false) rfl (by kernel_rfl) (by kernel_rfl) (by kernel_rfl) (fun _ _ _ h => h) (Or.inl ⟨by kernel_rfl, fun w hSw => by (try dsimp only at hSw); go_simp⟩) hHeld ?_
    try simp only [Act.put, List.setIfInBounds_toArray, List.set_cons_zero, List.set_cons_succ]
    refine wpAnyH_take (i := 3) (v := undef) rfl (by kernel_rfl) (by kernel_rfl) (by kernel_rfl) (fun _ _ _ h => h) (Or.inr ⟨by kernel_rfl, rfl⟩) hHeld ?_
    try simp only [Act.put, List.setIfInBounds_toArray, List.set_cons_zero, List.set_cons_succ]
    refine wpAnyH_take (i := 4) (v := undef) rfl (by kernel_rfl) (by kernel_rfl) (by kernel_rfl) (fun _ _ _ h => h) (Or.inr ⟨by kernel_rfl, rfl⟩) hHeld ?_
    try simp only [Act.put, List.setIfInBounds_toArray, List.set_cons_zero, List.set_cons_succ]
    refine wpAnyH_take (i := 5) (v := undef) rfl (by kernel_rfl) (by kernel_rfl) (by kernel_rfl) (fun _ _ _ h => h) (Or.inr ⟨by kernel_rfl, rfl⟩) hHeld ?_
    try simp only [Act.put, List.setIfInBounds_toArray, List.set_cons_zero, List.set_cons_succ]
    refine wpAnyH_take (i := 6) (v := undef) rfl (by kernel_rfl) (by kernel_rfl) (by kernel_rfl) (fun _ _ _ h => h) (Or.inr ⟨by kernel_rfl, rfl⟩) hHeld ?_
    try simp only [Act.put, List.setIfInBounds_toArray, List.set_cons_zero, List.set_cons_succ]
    refine wpAnyH_take (i := 7) (v := undef) rfl (by kernel_rfl) (by kernel_rfl) (by kernel_rfl) (fun _ _ _ h => h) (Or.inr ⟨by kernel_rfl, rfl⟩) hHeld ?_
    try simp only [Act.put, List.setIfInBounds_toArray, List.set_cons_zero, List.set_cons_succ]
    refine wpAnyH_take (i := 8) (v := .bool false) rfl (by kernel_rfl) (by kernel_rfl) (by kernel_rfl) (fun _ _ _ h => h) (Or.inl ⟨by kernel_rfl, fun w hSw => by (try dsimp only at hSw); go_simp⟩) hHeld ?_
    try simp only [Act.put, List.setIfInBounds_toArray, List.set_cons_zero, List.set_cons_succ]
    refine wpAnyH_take (i := 9) (v := .bool false) rfl (by kernel_rfl) (by kernel_rfl) (by kernel_rfl) (fun _ _ _ h => h) (Or.inl ⟨by kernel_rfl, fun w hSw => by (try dsimp only at hSw); go_simp⟩) hHeld ?_
    try simp only [Act.put, List.setIfInBounds_toArray, List.set_cons_zero, List.set_cons_succ]
    refine wpAnyH_take (i := 10) (v := undef) rfl (by kernel_rfl) (by kernel_rfl) (by kernel_rfl) (fun _ _ _ h => h) (Or.inr ⟨by kernel_rfl, rfl⟩) hHeld ?_
    try simp only [Act.put, List.setIfInBounds_toArray, List.set_cons_zero, List.set_cons_succ]
    refine wpAnyH_take (i := 11) (v := undef) rfl (by kernel_rfl) (by kernel_rfl) (by kernel_rfl) (fun _ _ _ h => h) (Or.inr ⟨by kernel_rfl, rfl⟩) hHeld ?_
    try simp only [Act.put, List.setIfInBounds_toArray, List.set_cons_zero, List.set_cons_succ]
    refine wpAnyH_take (i := 12) (v := .bool false) rfl (by kernel_rfl) (by kernel_rfl) (by kernel_rfl) (fun _ _ _ h => h) (Or.inl ⟨by kernel_rfl, fun w hSw => by (try dsimp only at hSw); go_simp⟩) hHeld ?_
    try simp only [Act.put, List.setIfInBounds_toArray, List.set_cons_zero, List.set_cons_succ]
    refine wpAnyH_ready (rs := [13]) (by kernel_rfl) (by simp) ?_
    refine AllReadyH.cons rfl (fun K hK => ?_) AllReadyH.nil
    go_simp
    refine hK.out _ _ ⟨p4, p5⟩ (fun hHeld => ?_)
    clear hK
    try simp only [Act.put, List.setIfInBounds_toArray, List.set_cons_zero, List.set_cons_succ]
    refine wpAnyH_ready (rs := [14]) (by kernel_rfl) (by simp) ?_
    refine AllReadyH.cons rfl (fun K hK => ?_) AllReadyH.nil
    go_simp
    refine hK.out _ _ ⟨p4, p5⟩ (fun hHeld => ?_)
    clear hK
    try simp only [Act.put, List.setIfInBounds_toArray, List.set_cons_zero, List.set_cons_succ]
    refine wpAnyH_done (by kernel_rfl) ?_ _
    go_wp2_with fail
    exact ret_row_tmp rfl w.heap.size 64 [.int .u32 m, .int .i64 z] _ rfl hrf Try.underlying64 rfl (by kernel_rfl) rfl ⟨m, Hfin.out, by rw [hzl.out]; rfl, hbf⟩
  | true =>
    have hn6 := hJ6 rfl
    by_cases hq : np = n
    · obtain rfl : R = pr := by rw [Hok.out, hq]; simp
      subst hq
      replace HPm := Lib.hid (HPm.out (by omega))
      have Hfin : Hid (R = true → m = maskL s.data.toList) := fun _ => hm.out rfl
      refine wp_region_held_drew (S := fun w' => w'.cell? ⟨w1.heap.size, 0, none⟩ = some (.int .u32 m) ∧ w'.cell? ⟨w1.heap.size, 1, none⟩ = some (.int .i64 z)) (by kernel_rfl) ⟨k0, k1⟩ (fun hHeld => ?_)
      refine wpAnyH_take (i := 0) (v := .agg #[.int .u32 m, .int .i64 z]) rfl (by kernel_rfl) (by kernel_rfl) (by kernel_rfl) (fun _ _ _ h => h) (Or.inl ⟨by kernel_rfl, fun w hSw => by (try dsimp only at hSw); go_simp⟩) hHeld ?_
      try simp only [Act.put, List.setIfInBounds_toArray, List.set_cons_zero, List.set_cons_succ]
      refine wpAnyH_take (i := 1) (v := .bool true) rfl (by kernel_rfl) (by kernel_rfl) (by kernel_rfl) (fun _ _ _ h => h) (Or.inl ⟨by kernel_rfl, fun w hSw => by (try dsimp only at hSw); go_simp⟩) hHeld ?_
      try simp only [Act.put, List.setIfInBounds_toArray, List.set_cons_zero, List.set_cons_succ]
      refine wpAnyH_take (i := 2) (v := .bool true) rfl (by kernel_rfl) (by kernel_rfl) (by kernel_rfl) (fun _ _ _ h => h) (Or.inl ⟨by kernel_rfl, fun w hSw => by (try dsimp only at hSw); go_simp⟩) hHeld ?_
      try simp only [Act.put, List.setIfInBounds_toArray, List.set_cons_zero, List.set_cons_succ]
      refine wpAnyH_take (i := 3) (v := .slice AP np cP) rfl (by kernel_rfl) (by kernel_rfl) (by kernel_rfl) (fun _ _ _ h => h) (Or.inl ⟨by kernel_rfl, fun w hSw => by (try dsimp only at hSw); go_simp⟩) hHeld ?_
      try simp only [Act.put, List.setIfInBounds_toArray, List.set_cons_zero, List.set_cons_succ]
      refine wpAnyH_take (i := 4) (v := .int .i64 np) rfl (by kernel_rfl) (by kernel_rfl) (by kernel_rfl) (fun _ _ _ h => h) (Or.inl ⟨by kernel_rfl, fun w hSw => by (try dsimp only at hSw); go_simp⟩) hHeld ?_
      try simp only [Act.put, List.setIfInBounds_toArray, List.set_cons_zero, List.set_cons_succ]
      refine wpAnyH_take (i := 5) (v := .slice A np c) rfl (by kernel_rfl) (by kernel_rfl) (by kernel_rfl) (fun _ _ _ h => h) (Or.inl ⟨by kernel_rfl, fun w hSw => by (try dsimp only at hSw); go_simp⟩) hHeld ?_
      try simp only [Act.put, List.setIfInBounds_toArray, List.set_cons_zero, List.set_cons_succ]
      refine wpAnyH_take (i := 6) (v := .int .i64 np) rfl (by kernel_rfl) (by kernel_rfl) (by kernel_rfl) (fun _ _ _ h => h) (Or.inl ⟨by kernel_rfl, fun w hSw => by (try dsimp only at hSw); go_simp⟩) hHeld ?_
      try simp only [Act.put, List.setIfInBounds_toArray, List.set_cons_zero, List.set_cons_succ]
      refine wpAnyH_take (i := 7) (v := .bool true) rfl (by kernel_rfl) (by kernel_rfl) (by kernel_rfl) (fun _ _ _ h => h) (Or.inl ⟨by kernel_rfl, fun w hSw => by (try dsimp only at hSw); go_simp⟩) hHeld ?_
      try simp only [Act.put, List.setIfInBounds_toArray, List.set_cons_zero, List.set_cons_succ]
      refine wpAnyH_take (i := 8) (v := .bool true) rfl (by kernel_rfl) (by kernel_rfl) (by kernel_rfl) (fun _ _ _ h => h) (Or.inl ⟨by kernel_rfl, fun w hSw => by (try dsimp only at hSw); go_simp⟩) hHeld ?_
      try simp only [Act.put, List.setIfInBounds_toArray, List.set_cons_zero, List.set_cons_succ]
      refine wpAnyH_take (i := 9) (v := .bool true) rfl (by kernel_rfl) (by kernel_rfl) (by kernel_rfl) (fun _ _ _ h => h) (Or.inl ⟨by kernel_rfl, fun w hSw => by (try dsimp only at hSw); go_simp⟩) hHeld ?_
      try simp only [Act.put, List.setIfInBounds_toArray, List.set_cons_zero, List.set_cons_succ]
      refine wpAnyH_take (i := 10) (v := .slice AP np cP) rfl (by kernel_rfl) (by kernel_rfl) (by kernel_rfl) (fun _ _ _ h => h) (Or.inl ⟨by kernel_rfl, fun w hSw => by (try dsimp only at hSw); go_simp⟩) hHeld ?_
      try simp only [Act.put, List.setIfInBounds_toArray, List.set_cons_zero, List.set_cons_succ]
      refine wpAnyH_ready (rs := [11]) (by kernel_rfl) (by simp) ?_
      refine AllReadyH.cons rfl (fun K hK => ?_) AllReadyH.nil
      go_simp
      go_at_call 87
      refine (HPm.out _ HIW.out).mono ?_
      rintro e wA ⟨rfl, rfl⟩
      show K _ W.drew
      refine hK.out _ _ ⟨k0, k1⟩ (fun hHeld => ?_)
      clear hK
      try simp only [Act.put, List.setIfInBounds_toArray, List.set_cons_zero, List.set_cons_succ]
      refine wpAnyH_take (i := 12) (v := .bool R) rfl (by kernel_rfl) (by kernel_rfl) (by kernel_rfl) (fun _ _ _ h => h) (Or.inl ⟨by kernel_rfl, fun w hSw => by (try dsimp only at hSw); go_simp⟩) hHeld ?_
      try simp only [Act.put, List.setIfInBounds_toArray, List.set_cons_zero, List.set_cons_succ]
      refine wpAnyH_ready (rs := [13]) (by kernel_rfl) (by simp) ?_
      refine AllReadyH.cons rfl (fun K hK => ?_) AllReadyH.nil
      go_simp
      refine hK.out _ _ ⟨p4, p5⟩ (fun hHeld => ?_)
      clear hK
      try simp only [Act.put, List.setIfInBounds_toArray, List.set_cons_zero, List.set_cons_succ]
      refine wpAnyH_ready (rs := [14]) (by kernel_rfl) (by simp) ?_
      refine AllReadyH.cons rfl (fun K hK => ?_) AllReadyH.nil
      go_simp
      refine hK.out _ _ ⟨p4, p5⟩ (fun hHeld => ?_)
      clear hK
      try simp only [Act.put, List.setIfInBounds_toArray, List.set_cons_zero, List.set_cons_succ]
      refine wpAnyH_done (by kernel_rfl) ?_ _
      go_wp2_with fail
      exact ret_row_tmp rfl w.heap.size 64 [.int .u32 m, .int .i64 z] _ rfl hrf Try.underlying64 rfl (by kernel_rfl) rfl ⟨m, Hfin.out, by rw [hzl.out]; rfl, hbf⟩
    · obtain rfl : R = false := by rw [Hok.out]; simp [hq]
      have hqi : ¬ (np : Int) = (n : Int) := by omega
      have hqb := bF hqi
      have Hfin : Hid (false = true → m = maskL s.data.toList) := fun h => by cases h
      refine wp_region_held_drew (S := fun w' => w'.cell? ⟨w1.heap.size, 0, none⟩ = some (.int .u32 m) ∧ w'.cell? ⟨w1.heap.size, 1, none⟩ = some (.int .i64 z)) (by kernel_rfl) ⟨k0, k1⟩ (fun hHeld => ?_)
      refine wpAnyH_take (i := 0) (v := .agg #[.int .u32 m, .int .i64 z]) rfl (by kernel_rfl) (by kernel_rfl) (by kernel_rfl) (fun _ _ _ h => h) (Or.inl ⟨by kernel_rfl, fun w hSw => by (try dsimp only at hSw); go_simp⟩) hHeld ?_
      try simp only [Act.put, List.setIfInBounds_toArray, List.set_cons_zero, List.set_cons_succ]
      refine wpAnyH_take (i := 1) (v := .bool true) rfl (by kernel_rfl) (by kernel_rfl) (by kernel_rfl) (fun _ _ _ h => h) (Or.inl ⟨by kernel_rfl, fun w hSw => by (try dsimp only at hSw); go_simp⟩) hHeld ?_
      try simp only [Act.put, List.setIfInBounds_toArray, List.set_cons_zero, List.set_cons_succ]
      refine wpAnyH_take (i := 2) (v := .bool true) rfl (by kernel_rfl) (by kernel_rfl) (by kernel_rfl) (fun _ _ _ h => h) (Or.inl ⟨by kernel_rfl, fun w hSw => by (try dsimp only at hSw); go_simp⟩) hHeld ?_
      try simp only [Act.put, List.setIfInBounds_toArray, List.set_cons_zero, List.set_cons_succ]
      refine wpAnyH_take (i := 3) (v := .slice AP np cP) rfl (by kernel_rfl) (by kernel_rfl) (by kernel_rfl) (fun _ _ _ h => h) (Or.inl ⟨by kernel_rfl, fun w hSw => by (try dsimp only at hSw); go_simp⟩) hHeld ?_
      try simp only [Act.put, List.setIfInBounds_toArray, List.set_cons_zero, List.set_cons_succ]
      refine wpAnyH_take (i := 4) (v := .int .i64 np) rfl (by kernel_rfl) (by kernel_rfl) (by kernel_rfl) (fun _ _ _ h => h) (Or.inl ⟨by kernel_rfl, fun w hSw => by (try dsimp only at hSw); go_simp⟩) hHeld ?_
      try simp only [Act.put, List.setIfInBounds_toArray, List.set_cons_zero, List.set_cons_succ]
      refine wpAnyH_take (i := 5) (v := .slice A n c) rfl (by kernel_rfl) (by kernel_rfl) (by kernel_rfl) (fun _ _ _ h => h) (Or.inl ⟨by kernel_rfl, fun w hSw => by (try dsimp only at hSw); go_simp⟩) hHeld ?_
      try simp only [Act.put, List.setIfInBounds_toArray, List.set_cons_zero, List.set_cons_succ]
      refine wpAnyH_take (i := 6) (v := .int .i64 n) rfl (by kernel_rfl) (by kernel_rfl) (by kernel_rfl) (fun _ _ _ h => h) (Or.inl ⟨by kernel_rfl, fun w hSw => by (try dsimp only at hSw); go_simp⟩) hHeld ?_
      try simp only [Act.put, List.setIfInBounds_toArray, List.set_cons_zero, List.set_cons_succ]
      refine wpAnyH_take (i := 7) (v := .bool false) rfl (by kernel_rfl) (by kernel_rfl) (by kernel_rfl) (fun _ _ _ h => h) (Or.inl ⟨by kernel_rfl, fun w hSw => by (try dsimp only at hSw); go_simp⟩) hHeld ?_
      try simp only [Act.put, List.setIfInBounds_toArray, List.set_cons_zero, List.set_cons_succ]
      refine wpAnyH_take (i := 8) (v := .bool false) rfl (by kernel_rfl) (by kernel_rfl) (by kernel_rfl) (fun _ _ _ h => h) (Or.inl ⟨by kernel_rfl, fun w hSw => by (try dsimp only at hSw); go_simp⟩) hHeld ?_
      try simp only [Act.put, List.setIfInBounds_toArray, List.set_cons_zero, List.set_cons_succ]
      refine wpAnyH_take (i := 9) (v := .bool false) rfl (by kernel_rfl) (by kernel_rfl) (by kernel_rfl) (fun _ _ _ h => h) (Or.inl ⟨by kernel_rfl, fun w hSw => by (try dsimp only at hSw); go_simp⟩) hHeld ?_
      try simp only [Act.put, List.setIfInBounds_toArray, List.set_cons_zero, List.set_cons_succ]
      refine wpAnyH_take (i := 10) (v := undef) rfl (by kernel_rfl) (by kernel_rfl) (by kernel_rfl) (fun _ _ _ h => h) (Or.inr ⟨by kernel_rfl, rfl⟩) hHeld ?_
      try simp only [Act.put, List.setIfInBounds_toArray, List.set_cons_zero, List.set_cons_succ]
      refine wpAnyH_take (i := 11) (v := undef) rfl (by kernel_rfl) (by kernel_rfl) (by kernel_rfl) (fun _ _ _ h => h) (Or.inr ⟨by kernel_rfl, rfl⟩) hHeld ?_
      try simp only [Act.put, List.setIfInBounds_toArray, List.set_cons_zero, List.set_cons_succ]
      refine wpAnyH_take (i := 12) (v := .bool false) rfl (by kernel_rfl) (by kernel_rfl) (by kernel_rfl) (fun _ _ _ h => h) (Or.inl ⟨by kernel_rfl, fun w hSw => by (try dsimp only at hSw); go_simp⟩) hHeld ?_
      try simp only [Act.put, List.setIfInBounds_toArray, List.set_cons_zero, List.set_cons_succ]
      refine wpAnyH_ready (rs := [13]) (by kernel_rfl) (by simp) ?_
      refine AllReadyH.cons rfl (fun K hK => ?_) AllReadyH.nil
      go_simp
      refine hK.out _ _ ⟨p4, p5⟩ (fun hHeld => ?_)
      clear hK
      try simp only [Act.put, List.setIfInBounds_toArray, List.set_cons_zero, List.set_cons_succ]
      refine wpAnyH_ready (rs := [14]) (by kernel_rfl) (by simp) ?_
      refine AllReadyH.cons rfl (fun K hK => ?_) AllReadyH.nil
      go_simp
      refine hK.out _ _ ⟨p4, p5⟩ (fun hHeld => ?_)
      clear hK
      try simp only [Act.put, List.setIfInBounds_toArray, List.set_cons_zero, List.set_cons_succ]
      refine wpAnyH_done (by kernel_rfl) ?_ _
      go_wp2_with fail
      exact ret_row_tmp rfl w.heap.size 64 [.int .u32 m, .int .i64 z] _ rfl hrf Try.underlying64 rfl (by kernel_rfl) rfl ⟨m, Hfin.out, by rw [hzl.out]; rfl, hbf⟩
set_option maxRecDepth 100000 in
theorem implPlan (s : ByteArray) (A AP : Option Addr) (c cP lo : Nat) (J : List Jb) (P : List Int) (hs : s.size ≤ maxLen) (hJn : J.length ≤ 1048576) (hPn : P.length ≤ maxLen) (w : World) (hJ : Jbs w w.heap.size A J) (hP : Iv w lo w.heap.size AP P) :
    Calls Try.prog 29 #[.string s, .slice A J.length c, .slice AP P.length cP] w fun e w' => e = .returned (.bool (planInV s.data.toList J P)) ∧ Below w.heap.size w w' := by
  have H := Lib.hid (fun w' h1 h2 => planIn_any s A AP c cP lo J P hs hJn hPn w' h1 h2)
  obtain ⟨n, hn⟩ : ∃ n, n = J.length := ⟨_, rfl⟩
  obtain ⟨np, hnp⟩ : ∃ n, n = P.length := ⟨_, rfl⟩
  obtain ⟨R, hR⟩ : ∃ R, R = planInV s.data.toList J P := ⟨_, rfl⟩
  rw [← hn, ← hnp, ← hR] at H
  rw [← hn, ← hnp, ← hR]
  clear hn hnp hR
  go_enter Try.func29, Try.ntmps29
  go_wp2_with fail
  refine (H.out _ hJ hP).mono ?_
  rintro e w1 ⟨m, hm, rfl, hb⟩
  clear hm
  go_wp2_with fail
  go_ret
  exact ⟨rfl, hb.alloc hb.size _⟩
end Go.Proofs.Ytglncadfmomamaa
