/- SignalVote of the program, walked. -/
import Derived.Test.YtpldkfbglfcidaaDoorSt
import Derived.Test.YtpldkfbglfcidaaDoorApp
namespace Go.Proofs.YtpldkfbglfcidaaDoor
set_option linter.unusedVariables false
set_option linter.unusedSimpArgs false
open Go.RowKit
set_option maxHeartbeats 2000000 in
set_option maxRecDepth 100000 in
theorem implSt (a b c : ByteArray) (ha : a.size ≤ maxLen) (hb : b.size ≤ maxLen) (hc : c.size ≤ maxLen) (w : World) :
    Calls Tryd.prog 21 #[.string a, .string b, .string c] w (VotePost a.data.toList b.data.toList c.data.toList w) := by
  have HA := implSf a b ha hb
  have HC := implSf a c ha hc
  cases va : farOk a.data.toList b.data.toList with
  | false =>
    have hR : Hid (voteR a.data.toList b.data.toList c.data.toList ⟨#[]⟩ false) := ⟨by rw [voteS, voteOk, va]; rfl, by rw [voteOk, va]; rfl⟩
    have hneg := farV_neg va
    obtain ⟨x, hx⟩ : ∃ x, x = farV a.data.toList b.data.toList := ⟨_, rfl⟩
    rw [← hx] at hneg HA
    have H := Lib.hid HA
    clear HA HC hx va
    go_enter Tryd.func21, Tryd.ntmps21
    go_wp2_with fail
    refine (H.out _).mono ?_
    rintro e w1 ⟨rfl, hb1⟩
    go_wp2_with fail
    go_ret2
    exact ⟨_, _, rfl, hR.out, hb1⟩
  | true =>
    have hpos := farV_pos va
    obtain ⟨x, hx⟩ : ∃ x, x = farV a.data.toList b.data.toList := ⟨_, rfl⟩
    rw [← hx] at hpos HA
    have H := Lib.hid HA
    cases vc : farOk a.data.toList c.data.toList with
    | false =>
      have hR : Hid (voteR a.data.toList b.data.toList c.data.toList ⟨#[]⟩ false) := ⟨by rw [voteS, voteOk, va, vc]; rfl, by rw [voteOk, va, vc]; rfl⟩
      have hneg := farV_neg vc
      obtain ⟨y, hy⟩ : ∃ x, x = farV a.data.toList c.data.toList := ⟨_, rfl⟩
      rw [← hy] at hneg HC
      have H2 := Lib.hid HC
      clear HA HC hx va vc hy
      go_enter Tryd.func21, Tryd.ntmps21
      go_wp2_with fail
      refine (H.out _).mono ?_
      rintro e w1 ⟨rfl, hb1⟩
      go_wp2_with fail
      refine (H2.out _).mono ?_
      rintro e w2 ⟨rfl, hb2⟩
      go_wp2_with fail
      go_ret2
      exact ⟨_, _, rfl, hR.out, hb1.trans (hb2.mono hb1.size)⟩
    | true =>
      obtain ⟨hab, h80⟩ := farOk_n va
      obtain ⟨hac, _⟩ := farOk_n vc
      have hR : Hid (voteR a.data.toList b.data.toList c.data.toList ⟨(voteTo a.data.toList b.data.toList c.data.toList a.size).toArray⟩ true) := ⟨by rw [voteS, voteOk, va, vc]; simp, by rw [voteOk, va, vc]; rfl⟩
      have hposc := farV_pos vc
      obtain ⟨y, hy⟩ : ∃ x, x = farV a.data.toList c.data.toList := ⟨_, rfl⟩
      rw [← hy] at hposc HC
      have H2 := Lib.hid HC
      have Hab := Lib.hid hab
      have Hac := Lib.hid hac
      have HS : Hid (∀ k (h1 : k < a.size) (h2 : k < b.size) (h3 : k < c.size), voteTo a.data.toList b.data.toList c.data.toList (k + 1) = voteTo a.data.toList b.data.toList c.data.toList k ++ [voteC a[k] b[k] c[k]]) := fun k h1 h2 h3 => voteTo_succ h1 h2 h3
      have hmk := fun w => mk_capU (a.size : Int) a.size rfl (by omega) w
      clear HA HC hx va vc hy hab hac ha hb hc
      go_enter Tryd.func21, Tryd.ntmps21
      go_wp2_with fail
      refine (H.out _).mono ?_
      rintro e w1 ⟨rfl, hb1⟩
      go_wp2_with fail
      refine (H2.out _).mono ?_
      rintro e w2 ⟨rfl, hb2⟩
      replace hb2 := hb1.trans (hb2.mono hb1.size)
      go_wp2_with fail
      go_loopw [8, 25] (fun v i wr => ∃ (k g c' : Nat), k ≤ a.size ∧ i = .int .i64 k ∧ v = .slice (some ⟨g, 0, none⟩) k c' ∧ OwnU wr w.heap.size g k c' (voteTo a.data.toList b.data.toList c.data.toList k) ∧ Below w.heap.size w wr) (fun _ i _ => a.size - (intOf i).toNat)
      case atStart => exact ⟨0, _, _, by omega, rfl, rfl, OwnU.made0 _ _ _ hb2.size (by omega), hb2.alloc hb2.size _⟩
      case round =>
        obtain ⟨k, g, c', hk, rfl, rfl, hown, hbel⟩ := hrel
        have hsz := hbel.size
        by_cases hlt : k < a.size
        · have hltb : k < b.size := by have := Hab.out; omega
          have hltc : k < c.size := by have := Hac.out; omega
          have hS := HS.out k hlt hltb hltc
          have hk1 : k + 1 ≤ a.size := by omega
          have hk2 : k + 1 ≤ b.size := by omega
          by_cases h1 : (a[k].toNat : Int) = b[k].toNat
          · have hv : voteC a[k] b[k] c[k] = a[k] := by unfold voteC; rw [if_pos (byte_is h1)]
            rw [hv] at hS
            replace hS := Lib.hid hS
            have t1 := bT h1
            clear h1 hv
            go_wp2_with fail
            go_quiet (fail)
            go_wp2_with (at_builtin; refine appU _ rfl _ _ rfl w.heap.size _ _ _ _ rfl (OwnU.alloc (OwnU.drewN hown _) (Obj.cells #[.int .u8 ((a[k]).toNat : Int)] 5)) ⟨_, 0, none⟩ (a[k]) rfl (alloc1_cell rfl) (by omega) (by simp; omega) ?_; intro g5 c5 w5 hown5 hgr5)
            rw [← hS.out] at hown5
            have hb5 : Below w.heap.size w w5 := ((below_drewN hbel _).alloc (by simpa using hsz) _).grown hgr5 (by simp; omega) (fun j hj => by injection hj with hj; have := hown.block; omega)
            clear hgr5 hown
            go_wp2_with fail
            go_roundw
            case rel => exact ⟨k + 1, g5, c5, by omega, by go_num, rfl, hown5, hb5⟩
            case measure => simp [intOf]; omega
          · have t1 := bF h1
            by_cases h2 : (a[k].toNat : Int) = c[k].toNat
            · have hv : voteC a[k] b[k] c[k] = a[k] := by unfold voteC; rw [if_neg (byte_ne h1), if_pos (byte_is h2)]
              rw [hv] at hS
              replace hS := Lib.hid hS
              have t2 := bT h2
              clear h1 h2 hv
              go_wp2_with fail
              go_quiet (fail)
              go_wp2_with (at_builtin; refine appU _ rfl _ _ rfl w.heap.size _ _ _ _ rfl (OwnU.alloc (OwnU.drewN hown _) (Obj.cells #[.int .u8 ((a[k]).toNat : Int)] 5)) ⟨_, 0, none⟩ (a[k]) rfl (alloc1_cell rfl) (by omega) (by simp; omega) ?_; intro g5 c5 w5 hown5 hgr5)
              rw [← hS.out] at hown5
              have hb5 : Below w.heap.size w w5 := ((below_drewN hbel _).alloc (by simpa using hsz) _).grown hgr5 (by simp; omega) (fun j hj => by injection hj with hj; have := hown.block; omega)
              clear hgr5 hown
              go_wp2_with fail
              go_roundw
              case rel => exact ⟨k + 1, g5, c5, by omega, by go_num, rfl, hown5, hb5⟩
              case measure => simp [intOf]; omega
            · have t2 := bF h2
              by_cases h3 : (b[k].toNat : Int) = c[k].toNat
              · have hv : voteC a[k] b[k] c[k] = b[k] := by unfold voteC; rw [if_neg (byte_ne h1), if_neg (byte_ne h2), if_pos (byte_is h3)]
                rw [hv] at hS
                replace hS := Lib.hid hS
                have t3 := bT h3
                clear h1 h2 h3 hv
                go_wp2_with fail
                go_quiet (fail)
                go_wp2_with fail
                go_quiet (fail)
                go_wp2_with (at_builtin; refine appU _ rfl _ _ rfl w.heap.size _ _ _ _ rfl (OwnU.alloc (OwnU.drewN hown _) (Obj.cells #[.int .u8 ((b[k]).toNat : Int)] 5)) ⟨_, 0, none⟩ (b[k]) rfl (alloc1_cell rfl) (by omega) (by simp; omega) ?_; intro g5 c5 w5 hown5 hgr5)
                rw [← hS.out] at hown5
                have hb5 : Below w.heap.size w w5 := ((below_drewN hbel _).alloc (by simpa using hsz) _).grown hgr5 (by simp; omega) (fun j hj => by injection hj with hj; have := hown.block; omega)
                clear hgr5 hown
                go_wp2_with fail
                go_roundw
                case rel => exact ⟨k + 1, g5, c5, by omega, by go_num, rfl, hown5, hb5⟩
                case measure => simp [intOf]; omega
              · have hv : voteC a[k] b[k] c[k] = 48 := by unfold voteC; rw [if_neg (byte_ne h1), if_neg (byte_ne h2), if_neg (byte_ne h3)]
                rw [hv] at hS
                replace hS := Lib.hid hS
                have t3 := bF h3
                clear h1 h2 h3 hv
                go_wp2_with fail
                go_quiet (fail)
                go_wp2_with fail
                go_quiet (fail)
                go_wp2_with (at_builtin; refine appU _ rfl _ _ rfl w.heap.size _ _ _ _ rfl (OwnU.alloc (OwnU.drewN hown _) (Obj.cells #[.int .u8 48] 5)) ⟨_, 0, none⟩ (48) rfl (alloc1_cell rfl) (by omega) (by simp; omega) ?_; intro g5 c5 w5 hown5 hgr5)
                rw [← hS.out] at hown5
                have hb5 : Below w.heap.size w w5 := ((below_drewN hbel _).alloc (by simpa using hsz) _).grown hgr5 (by simp; omega) (fun j hj => by injection hj with hj; have := hown.block; omega)
                clear hgr5 hown
                go_wp2_with fail
                go_roundw
                case rel => exact ⟨k + 1, g5, c5, by omega, by go_num, rfl, hown5, hb5⟩
                case measure => simp [intOf]; omega
        · obtain rfl : k = a.size := by omega
          have hcv := hown.text
          go_wp2_with fail
          go_ret2
          exact ⟨_, _, rfl, hR.out, hbel⟩
end Go.Proofs.YtpldkfbglfcidaaDoor
