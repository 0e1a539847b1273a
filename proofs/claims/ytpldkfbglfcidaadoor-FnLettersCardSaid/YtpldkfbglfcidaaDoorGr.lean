/- The tree of codes of the program: it is grown, and codes are followed in it. -/
import Derived.Test.YtpldkfbglfcidaaDoorRp
import Derived.Test.YtpldkfbglfcidaaDoorSm
namespace Go.Proofs.YtpldkfbglfcidaaDoor
set_option linter.unusedVariables false
set_option linter.unusedSimpArgs false
open Go.RowKit
def nodeL (n : Nat) : Int := if 2 ≤ n then 95 + n else 0
/-- The pointer v leads to node n of the tree, in blocks from B on. -/
def Br (W : World) (B : Nat) : Nat → Nat → Option Addr → Prop
  | 0, n, v => 28 ≤ n ∧ v = none
  | f + 1, n, v => (28 ≤ n ∧ v = none) ∨ (n < 28 ∧ ∃ g vm vp, B ≤ g ∧ v = some ⟨g, 0, none⟩ ∧ Row W g 63 [.int .u8 (nodeL n), .pointer vm, .pointer vp] ∧ Br W B f (2 * n) vm ∧ Br W B f (2 * n + 1) vp)
theorem Br.below {W W' : World} {B m : Nat} (hb : Below m W W') (hm : W.heap.size ≤ m) : ∀ (f n : Nat) (v : Option Addr), Br W B f n v → Br W' B f n v
  | 0, _, _, h => h
  | f + 1, n, v, h => by
    rcases h with h | ⟨h1, g, vm, vp, h2, h3, h4, h5, h6⟩
    · exact .inl h
    · exact .inr ⟨h1, g, vm, vp, h2, h3, h4.below hb (Nat.lt_of_lt_of_le h4.lt hm), Br.below hb hm f _ _ h5, Br.below hb hm f _ _ h6⟩
theorem Br.more {W : World} {B B' : Nat} (hb : B' ≤ B) : ∀ (f n : Nat) (v : Option Addr), Br W B f n v → Br W B' f n v
  | 0, _, _, h => h
  | f + 1, n, v, h => by
    rcases h with h | ⟨h1, g, vm, vp, h2, h3, h4, h5, h6⟩
    · exact .inl h
    · exact .inr ⟨h1, g, vm, vp, Nat.le_trans hb h2, h3, h4, Br.more hb f _ _ h5, Br.more hb f _ _ h6⟩
def GrowPost (f n : Nat) (w : World) (e : Ending) (w' : World) : Prop := ∃ v, e = .returned (.pointer v) ∧ Br w' w.heap.size f n v ∧ Below w.heap.size w w'
theorem Br.nil {W : World} {B f n : Nat} (h : 28 ≤ n) : Br W B f n none := by
  cases f with
  | zero => exact ⟨h, rfl⟩
  | succ f => exact .inl ⟨h, rfl⟩
theorem Br.node {w2 : World} {B f n : Nat} {vm vp : Option Addr} {x : Int} (h : n < 28) (hB : B ≤ w2.heap.size) (hx : x = nodeL n) (hm : Br w2 B f (2 * n) vm) (hp : Br w2 B f (2 * n + 1) vp) :
    Br (w2.alloc (.cells #[.int .u8 x, .pointer vm, .pointer vp] 63)) B (f + 1) n (some ⟨w2.heap.size, 0, none⟩) := by
  subst hx
  have hb : Below w2.heap.size w2 (w2.alloc (.cells #[.int .u8 (nodeL n), .pointer vm, .pointer vp] 63)) := (Below.refl _ _).alloc (Nat.le_refl _) _
  exact .inr ⟨h, _, vm, vp, hB, rfl, Row.newS _ _ _ rfl rfl, Br.below hb (Nat.le_refl _) _ _ _ hm, Br.below hb (Nat.le_refl _) _ _ _ hp⟩
set_option maxRecDepth 100000 in
theorem grow_any : ∀ (f n : Nat), 1 ≤ n → 28 ≤ n * 2 ^ f → n ≤ 60 → ∀ w, Calls Tryd.prog 37 #[.int .i64 n] w (GrowPost f n w)
  | f, n, h1, hf, h60, w => by
    by_cases h : 28 ≤ n
    · go_enter Tryd.func37, Tryd.ntmps37
      go_wp2_with fail
      go_ret
      exact ⟨_, rfl, Br.nil h, Below.refl _ _⟩
    · cases f with
      | zero => omega
      | succ f =>
        have hp : 28 ≤ 2 * n * 2 ^ f := by rw [Nat.mul_comm 2 n, Nat.mul_assoc, Nat.mul_comm 2, ← Nat.pow_succ]; exact hf
        have hq : 28 ≤ (2 * n + 1) * 2 ^ f := Nat.le_trans hp (Nat.mul_le_mul_right _ (by omega))
        have HM := Lib.hid (grow_any f (2 * n) (by omega) hp (by omega))
        have HP := Lib.hid (grow_any f (2 * n + 1) (by omega) hq (by omega))
        rw [show ((2 * n : Nat) : Int) = 2 * (n : Int) by omega] at HM
        rw [show ((2 * n + 1 : Nat) : Int) = 2 * (n : Int) + 1 by omega] at HP
        clear hf hp hq
        go_enter Tryd.func37, Tryd.ntmps37
        go_wp2_with fail
        refine (HM.out _).mono ?_
        rintro e w1 ⟨vm, rfl, hm, hb1⟩
        go_wp2_with fail
        refine (HP.out _).mono ?_
        rintro e w2 ⟨vp, rfl, hpp, hb2⟩
        have hm2 := Lib.hid (Br.below hb2 (Nat.le_refl _) _ _ _ hm)
        have hp2 := Lib.hid (Br.more (by have := hb1.size; omega : w.heap.size ≤ w1.heap.size) _ _ _ hpp)
        have hbb := hb1.trans (hb2.mono hb1.size)
        clear hm hpp
        have hsz := hbb.size
        by_cases h2 : 2 ≤ n
        · have hl : (97 + (n : Int) - 2) = nodeL n := by unfold nodeL; rw [if_pos h2]; omega
          replace hl := Lib.hid hl
          go_wp2_with fail
          go_ret
          exact ⟨_, rfl, Br.node (by omega) hsz hl.out hm2.out hp2.out, hbb.alloc hsz _⟩
        · obtain rfl : n = 1 := by omega
          go_wp2_with fail
          go_ret
          exact ⟨_, rfl, Br.node (by omega) hsz rfl hm2.out hp2.out, hbb.alloc hsz _⟩
set_option maxRecDepth 100000 in
theorem follow_any (f n0 B : Nat) (v0 : Option Addr) (s : ByteArray) (hs : s.size ≤ 1000) (w : World) (hB : Br w B f n0 v0) :
    Calls Tryd.prog 39 #[.pointer v0, .string s] w fun e w' => e = .returned (.int .u8 (folV n0 s.data.toList)) ∧ w = w' := by
  obtain ⟨R, hR⟩ : ∃ R, R = folV n0 s.data.toList := ⟨_, rfl⟩
  rw [← hR]
  have HR := Lib.hid hR
  have hB0 := Lib.hid hB
  clear hR hB
  go_enter Tryd.func39, Tryd.ntmps39
  go_wp2_with fail
  go_loop [0, 8] (fun p i => ∃ (k n fu : Nat) (v : Option Addr), k ≤ s.size ∧ i = .int .i64 k ∧ p = .pointer v ∧ Br w B fu n v ∧ Hid (R = folV n (s.data.toList.drop k))) (fun _ i => s.size - (intOf i).toNat)
  case atStart => exact ⟨0, n0, f, v0, by omega, rfl, rfl, hB0.out, by rw [List.drop_zero]; exact HR.out⟩
  case round =>
    obtain ⟨k, n, fu, v, hk, rfl, rfl, hbr, hrv⟩ := hrel
    by_cases hlt : k < s.size
    · have hat := Lib.hid (at_list s k hlt)
      have hdr : Hid (s.data.toList.drop k = s[k] :: s.data.toList.drop (k + 1)) := by
        show _ = _
        rw [List.drop_eq_getElem_cons (by simpa using hlt)]; rfl
      by_cases h28 : 28 ≤ n
      · have hz : Hid (R = 0) := hrv.out.trans (folV_big h28 _)
        obtain rfl : v = none := by
          cases fu with
          | zero => exact hbr.2
          | succ fu => rcases hbr with h | h; exact h.2; omega
        clear hbr hB0
        go_wp2_with fail
        go_ret
        exact ⟨by rw [hz.out]; rfl, rfl⟩
      · cases fu with
        | zero => exact absurd hbr.1 h28
        | succ fu =>
          rcases hbr with h | ⟨-, g, vm, vp, -, rfl, hrow, hbm, hbp⟩
          · exact absurd h.1 h28
          · have c1 := hrow.cellI (i := 1) rfl
            have c2 := hrow.cellI (i := 2) rfl
            have hst : Hid (R = if s[k] = 45 then folV (2 * n) (s.data.toList.drop (k + 1)) else if s[k] = 43 then folV (2 * n + 1) (s.data.toList.drop (k + 1)) else 0) := by
              show _ = _
              rw [hrv.out, hdr.out, folV, if_pos (by omega)]
            have e1 := byte_eq s[k] 45 (by omega)
            have e2 := byte_eq s[k] 43 (by omega)
            replace hbm := Lib.hid hbm
            replace hbp := Lib.hid hbp
            clear hrv hdr hrow hB0
            by_cases h1 : (s[k].toNat : Int) = 45
            · have hR2 : Hid (R = folV (2 * n) (s.data.toList.drop (k + 1))) := by
                show _ = _
                rw [hst.out, if_pos (UInt8.toNat_inj.1 (by simp; omega))]
              have t1 := bT h1
              clear h1 hst
              go_wp2_with fail
              go_round
              case rel => exact ⟨k + 1, 2 * n, fu, vm, by omega, by go_num, rfl, hbm.out, hR2.out⟩
              case measure => simp [intOf]; omega
            · have hne1 : ¬ s[k] = 45 := fun e => h1 (by rw [e]; rfl)
              have t1 := bF h1
              by_cases h2 : (s[k].toNat : Int) = 43
              · have hR2 : Hid (R = folV (2 * n + 1) (s.data.toList.drop (k + 1))) := by
                  show _ = _
                  rw [hst.out, if_neg hne1, if_pos (UInt8.toNat_inj.1 (by simp; omega))]
                have t2 := bT h2
                clear h1 h2 hst hne1
                go_wp2_with fail
                go_round
                case rel => exact ⟨k + 1, 2 * n + 1, fu, vp, by omega, by go_num, rfl, hbp.out, hR2.out⟩
                case measure => simp [intOf]; omega
              · have hne2 : ¬ s[k] = 43 := fun e => h2 (by rw [e]; rfl)
                have hR2 : Hid (R = 0) := by
                  show _ = _
                  rw [hst.out, if_neg hne1, if_neg hne2]
                have t2 := bF h2
                clear h1 h2 hst hne1 hne2
                go_wp2_with fail
                go_ret
                exact ⟨by rw [hR2.out]; rfl, rfl⟩
    · obtain rfl : k = s.size := by omega
      have hR2 : Hid (R = folV n []) := by
        show _ = _
        rw [hrv.out, List.drop_of_length_le (by simp)]
      by_cases h28 : 28 ≤ n
      · have hz : Hid (R = 0) := hR2.out.trans (folV_big h28 _)
        obtain rfl : v = none := by
          cases fu with
          | zero => exact hbr.2
          | succ fu => rcases hbr with h | h; exact h.2; omega
        clear hbr hB0
        go_wp2_with fail
        go_ret
        exact ⟨by rw [hz.out]; rfl, rfl⟩
      · cases fu with
        | zero => exact absurd hbr.1 h28
        | succ fu =>
          rcases hbr with h | ⟨-, g, vm, vp, -, rfl, hrow, hbm, hbp⟩
          · exact absurd h.1 h28
          · have c0 := hrow.cellI (i := 0) rfl
            have hz : Hid (nodeL n = R) := by
              show _ = _
              rw [hR2.out, folV]
              unfold nodeL
              by_cases h2 : 2 ≤ n
              · rw [if_pos h2, if_pos ⟨h2, by omega⟩]; omega
              · rw [if_neg h2, if_neg (by omega)]; rfl
            clear hrow hbm hbp hB0 hR2 hrv
            go_wp2_with fail
            go_ret
            exact ⟨by rw [← hz.out]; rfl, rfl⟩
end Go.Proofs.YtpldkfbglfcidaaDoor
