/- The law FnTree, walked. -/
import Derived.Deep.RegionHeld3
import Derived.Test.YtkcfclkpbmeaiaaLawQ
import Derived.Test.YtkcfclkpbmeaiaaDraw3
import Derived.Test.YtkcfclkpbmeaiaaTree2
import Derived.Test.YtkcfclkpbmeaiaaHelp
namespace Go.Proofs.Ytkcfclkpbmeaiaa
set_option linter.unusedVariables false
set_option linter.unusedSimpArgs false
open Go.RowKit
set_option maxHeartbeats 2000000 in
set_option maxRecDepth 100000 in
theorem law_Tree (a0 : Option Addr) (len0 cap0 : Nat) (z0 : List Int) (a1 : Option Addr) (len1 cap1 : Nat) (z1 : List Int) (w : World) (w0 : ArgB w a0 len0 cap0 z0) (w1 : ArgB w a1 len1 cap1 z1) :
    Calls Try.prog 7 #[.slice a0 len0 cap0, .slice a1 len1 cap1] w fun e w' => e = .returned (.bool true) ∧ Below w.heap.size w w' := by
  obtain ⟨hl0, hm0, hby0⟩ := w0.byt
  have hm0' := hm0
  unfold maxLen at hm0'
  obtain ⟨hl1, hm1, hby1⟩ := w1.byt
  have hm1' := hm1
  unfold maxLen at hm1'
  by_cases h0 : 1048576 < len0
  · go_enter Try.func7, Try.ntmps7
    go_wp2_with fail
    go_ret
    exact ⟨rfl, Below.refl _ _⟩
  by_cases h1 : 1048576 < len1
  · go_enter Try.func7, Try.ntmps7
    go_wp2_with fail
    go_ret
    exact ⟨rfl, Below.refl _ _⟩
  have hdr := Lib.hid (drawNetTree a0 len0 cap0 hl0 hm0 _ hby0)
  go_enter Try.func7, Try.ntmps7
  go_wp2_with fail
  refine hdr.out.mono ?_
  rintro e w1 ⟨n, A, c, L, rfl, hn2, hn5, hL7, hoL, hbw⟩
  have hcc : L.length ≤ c ∧ c ≤ maxLen := by
    obtain ⟨A0, c0, e0, h1, h2⟩ := hoL.form
    injection e0 with _ _ e0
    subst e0
    exact ⟨h1, h2⟩
  replace hcc := Lib.hid hcc
  have hL : Hid (Lns w1 w1.heap.size A L) := hoL.lns
  have hL1 : L.length ≤ 1048576 := by omega
  have hb := Below.refl w1.heap.size w1
  clear hdr hoL hby0 hm0
  go_wp2_with fail
  refine (iNetTree n A c L hL1 _ ((hL.out.below hb).more hb.size)).mono ?_
  rintro e w2 ⟨A2, c2, xs, ok, rfl, hR, hO2, hb2⟩
  replace hb := hb.trans (hb2.mono hb.size)
  clear hb2
  replace hR := Lib.hid hR
  go_wp2_with fail
  refine (sNetTree n A c L hL1 _ ((hL.out.below hb).more hb.size)).mono ?_
  rintro e w3 ⟨A3, c3, xs', ok', rfl, hR', hO3, hb3⟩
  replace hO2 := hO2.below hb3
  replace hb := hb.trans (hb3.mono hb.size)
  clear hb3
  obtain rfl : ok' = ok := hR'.1.trans hR.out.1.symm
  obtain rfl : xs' = xs := hR'.2.trans hR.out.2.symm
  clear hR'
  have hx36 : xs'.length ≤ 36 := by
    rw [hR.out.2]
    split
    · have h := treeTo_len n.toNat L n.toNat
      have := Nat.mul_le_mul (show n.toNat ≤ 5 by omega) (show n.toNat ≤ 5 by omega)
      omega
    · simp
  have hx1 : xs'.length ≤ 1048576 := by omega
  cases ok' with
  | false =>
    go_wp2_with fail
    refine (sameInts_same _ _ _ _ _ _ _ _ xs' hx1 _ hO2.iv hO3.iv).mono ?_
    rintro e w4 ⟨rfl, hb4⟩
    replace hO2 := hO2.below hb4
    replace hO3 := hO3.below hb4
    replace hb := hb.trans (hb4.mono hb.size)
    clear hb4
    go_wp2_with fail
    refine (sameInts_same _ _ _ _ _ _ _ _ xs' hx1 _ hO2.iv hO3.iv).mono ?_
    rintro e w5 ⟨rfl, hb5⟩
    replace hO2 := hO2.below hb5
    replace hO3 := hO3.below hb5
    replace hb := hb.trans (hb5.mono hb.size)
    clear hb5
    go_wp2_with fail
    go_ret
    exact ⟨rfl, hbw.trans (hb.mono hbw.size)⟩
  | true =>
    go_wp2_with fail
    refine (sameInts_same _ _ _ _ _ _ _ _ xs' hx1 _ hO2.iv hO3.iv).mono ?_
    rintro e w4 ⟨rfl, hb4⟩
    replace hO2 := hO2.below hb4
    replace hO3 := hO3.below hb4
    replace hb := hb.trans (hb4.mono hb.size)
    clear hb4
    clear hO3
    have hnet : netOk n L = true := hR.out.1.symm
    obtain ⟨nn, rfl⟩ := Int.eq_ofNat_of_zero_le (by omega : 0 ≤ n)
    have hxs : xs' = treeTo nn L nn := by rw [hR.out.2, if_pos hnet, Int.toNat_natCast]
    have Hat : Hid (∀ k j : Nat, k < nn → j < nn - (k + 1) → xs'[(treeTo nn L k).length + j]? = some (mostV nn L k ((k + 1 + j : Nat) : Int))) := fun k j hk hj => by rw [hxs]; exact tree_at hk hj
    have Hln : Hid (∀ k : Nat, (treeTo nn L (k + 1)).length = (treeTo nn L k).length + (nn - (k + 1))) := fun k => tree_len k
    have Hl0 : Hid ((treeTo nn L 0).length = 0) := rfl
    have Hend : Hid ((treeTo nn L nn).length = xs'.length) := by show _ = _; rw [hxs]
    have Hmx : Hid (∀ k : Nat, k ≤ nn → (treeTo nn L k).length ≤ 36) := fun k hk => by
      have h := treeTo_len nn L k
      have := Nat.mul_le_mul (show nn ≤ 5 by omega) (show k ≤ 5 by omega)
      omega
    have HT := Lib.hid (fun p q w hL => iTrafficMost nn A c L p q hL1 w hL)
    have hLb := Lib.hid (fun (w' : World) (h : Below w1.heap.size w1 w') => ((hL.out.below h).more h.size))
    have hXi := Lib.hid hO2.iv
    have Hnet := Lib.hid hnet
    obtain ⟨mx, hmx⟩ : ∃ m, m = xs'.length := ⟨_, rfl⟩
    rw [← hmx] at hx1 hx36 ⊢
    have HMx := Lib.hid hmx
    clear hR hxs hnet hmx hO2
    go_wp2_with fail
    go_loopw [11, 12] (fun i a wr => ∃ k l : Nat, k ≤ nn ∧ a = .int .i64 k ∧ i = .int .i64 l ∧ Hid (l = (treeTo nn L k).length) ∧ Below w4.heap.size w4 wr) (fun _ a _ => nn - (intOf a).toNat)
    case atStart => exact ⟨0, 0, by omega, rfl, rfl, Hl0.out.symm, Below.refl _ _⟩
    case round =>
      obtain ⟨k, l, hk, rfl, rfl, hl, hbel⟩ := hrel
      have hl36 : l ≤ 36 := by rw [hl.out]; exact Hmx.out k hk
      by_cases hkn : k < nn
      · have hlx := Hln.out k
        have hnx36 := Hmx.out (k + 1) hkn
        rw [← hl.out] at hlx
        obtain ⟨l2, hl2⟩ : ∃ l2, l2 = (treeTo nn L (k + 1)).length := ⟨_, rfl⟩
        rw [← hl2] at hlx hnx36
        have Hl2 := Lib.hid hl2
        have Hlx := Lib.hid hlx
        have hl237 : l + (nn - (k + 1)) ≤ 36 := by omega
        clear hl2 hlx
        go_wp2_with fail
        go_loopw [11, 13] (fun i b wz => ∃ j s b' : Nat, j ≤ nn - (k + 1) ∧ b = .int .i64 b' ∧ Hid (b' = k + 1 + j) ∧ i = .int .i64 s ∧ Hid (s = l + j) ∧ Below w4.heap.size w4 wz) (fun _ b _ => nn - (intOf b).toNat)
        case atStart => exact ⟨0, l, k + 1, by omega, by go_num, rfl, rfl, rfl, hbel⟩
        case round =>
          clear hbel
          obtain ⟨j, s, b', hj, rfl, hb', rfl, hs, hbz⟩ := hrel
          have hs36 : s ≤ 36 := by have := hs.out; omega
          have hb5 : b' ≤ nn := by have := hb'.out; omega
          by_cases hjn : j < nn - (k + 1)
          · have hat := Hat.out k j hkn hjn
            rw [← hl.out, ← hs.out, ← hb'.out] at hat
            obtain ⟨r, hr⟩ : ∃ r, r = mostV nn L k (b' : Int) := ⟨_, rfl⟩
            rw [← hr] at hat
            have hlm : s < mx := by rw [HMx.out]; exact (List.getElem?_eq_some_iff.1 hat).1
            obtain ⟨bx, ox, rfl, _, hbx, hcx⟩ := hXi.out (by rw [← HMx.out]; omega)
            have g1 := (hbz.cell (p := ⟨bx, _, none⟩) hbx).trans (hcx _ r hat)
            have hbk := hb.trans (hbz.mono hb.size)
            have HTk : Hid (∀ w, Lns w w.heap.size A L → Calls Try.prog 22 #[.int .i64 nn, .slice A L.length c, .int .i64 k, .int .i64 b'] w (IntPost (fun x => x = r) w)) := fun w hw => by rw [hr]; exact HT.out _ _ w hw
            have hLz := Lib.hid (hLb.out _ hbk)
            have hbxw : bx < wr.heap.size := Nat.lt_of_lt_of_le hbx hbz.size
            have hkj : b' < nn := by have := hb'.out; omega
            have Hz : Hid (∀ wA, Below wr.drew.heap.size wr.drew wA → Below w4.heap.size w4 wA) := fun wA h => hbz.trans ((show Below wr.heap.size wr wA from ⟨h.os, h.tape, h.output, h.size, h.block⟩).mono hbz.size)
            clear hat hr hcx hbk hbz
            go_wp2_with fail
            go_region_held3 (fun w' => w'.cell? ⟨bx, ox + s, none⟩ = some (.int .i64 r)) (first | exact g1 | exact q1) (first
              | (go_at_call 22; refine (HTk.out wr.drew hLz.out).mono ?_; rintro e wA ⟨x3, rfl, rfl, hbA⟩; have q1 := (hbA.cell hbxw).trans g1))
            have hbn := Hz.out wA hbA
            clear hbA q1 g1
            go_simp
            go_wp2_with fail
            go_roundw
            case rel => exact ⟨j + 1, s + 1, b' + 1, by omega, by go_num, by show _ = _; rw [hb'.out]; omega, by go_num, by show _ = _; rw [hs.out]; omega, hbn⟩
            case measure => simp [intOf]; omega
          · obtain rfl : j = nn - (k + 1) := by omega
            have hnb : ¬ b' < nn := by have := hb'.out; omega
            go_wp2_with fail
            go_roundw
            case rel => exact ⟨k + 1, l2, by omega, by go_num, by rw [Hlx.out, hs.out], Hl2.out, hbz⟩
            case measure => simp [intOf]; omega
      · obtain rfl : k = nn := by omega
        obtain rfl : l = mx := by rw [hl.out, HMx.out]; exact Hend.out
        replace hb := hb.trans (hbel.mono hb.size)
        have ha0 : 0 ≤ (len1 : Int) % k := Int.emod_nonneg _ (by omega)
        have han : (len1 : Int) % k < k := Int.emod_lt_of_pos _ (by omega)
        have hk0 : ¬ (k : Int) = 0 := by omega
        clear hbel Hat Hln Hmx Hend Hl0 hl HMx hXi
        by_cases h3 : 3 ≤ (k : Int)
        · obtain ⟨hb0, hbn, hc0, hcn, hab, hbc, hac⟩ := three h3 ha0 han
          obtain ⟨t1, t2, t3⟩ := tri3 Hnet.out ha0 han hb0 hbn hc0 hcn hab hbc hac
          clear hb0 hbn hc0 hcn hab hbc hac
          simp only [Int.emod_add_emod] at t1 t2 t3
          go_wp2_with fail
          refine (HT.out _ _ _ (hLb.out _ hb)).mono ?_
          rintro e w8 ⟨x, rfl, hx, hb8⟩
          replace hb := hb.trans (hb8.mono hb.size)
          replace hx := Lib.hid hx
          clear hb8
          go_wp2_with fail
          refine (HT.out _ _ _ (hLb.out _ hb)).mono ?_
          rintro e w9 ⟨y, rfl, hy, hb9⟩
          replace hb := hb.trans (hb9.mono hb.size)
          replace hy := Lib.hid hy
          clear hb9
          go_wp2_with fail
          refine (HT.out _ _ _ (hLb.out _ hb)).mono ?_
          rintro e w10 ⟨z, rfl, hz, hb10⟩
          replace hb := hb.trans (hb10.mono hb.size)
          clear hb10
          rw [← hx.out, ← hy.out, ← hz] at t1 t2 t3
          replace hz := Lib.hid hz
          rcases (by omega : (y ≤ z ∧ ¬ z < y) ∨ (z < y ∧ ¬ y ≤ z)) with ⟨o1, o1'⟩ | ⟨o1, o1'⟩ <;> rcases (by omega : (x ≤ z ∧ ¬ z < x) ∨ (z < x ∧ ¬ x ≤ z)) with ⟨o2, o2'⟩ | ⟨o2, o2'⟩ <;> rcases (by omega : (x ≤ y ∧ ¬ y < x) ∨ (y < x ∧ ¬ x ≤ y)) with ⟨o3, o3'⟩ | ⟨o3, o3'⟩
          all_goals go_wp2_with fail
          all_goals go_ret
          all_goals exact ⟨rfl, hbw.trans (hb.mono hbw.size)⟩
        · go_wp2_with fail
          go_ret
          exact ⟨rfl, hbw.trans (hb.mono hbw.size)⟩
end Go.Proofs.Ytkcfclkpbmeaiaa
