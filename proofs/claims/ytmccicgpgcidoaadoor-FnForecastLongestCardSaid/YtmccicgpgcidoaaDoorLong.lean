/- ForecastLongest and ForecastWindow, of the reference and of the program, walked. -/
import Derived.Test.YtmccicgpgcidoaaDoorTz
import Derived.Test.YtmccicgpgcidoaaDoorFcLaw
namespace Go.Proofs.YtmccicgpgcidoaaDoor
set_option linter.unusedVariables false
set_option linter.unusedSimpArgs false
open Go.RowKit
theorem longV_off {l : List UInt8} (h : fcValid l = false) : longV l = -1 := by rw [longV, h]; rfl
theorem longV_on {l : List UInt8} (h : fcValid l = true) : longV l = (mostRun l l.length : Int) := by rw [longV, if_pos h]
set_option maxRecDepth 100000 in
theorem specLongest (s : ByteArray) (hs : s.size ≤ maxLen) (w : World) :
    Calls Tryd.prog 7 #[.string s] w fun e w' => e = .returned (.int .i64 (longV s.data.toList)) ∧ w = w' := by
  have hlen : s.data.toList.length = s.size := by simp
  cases hv : fcValid s.data.toList with
  | false =>
    have H := Lib.hid (specValid_is s hs false hv)
    rw [longV_off hv]
    clear hv
    go_enter Tryd.func7, Tryd.ntmps7
    go_wp2_with (first | (go_at_call 14; refine (H.out _).mono ?_; rintro e w' ⟨rfl, rfl⟩))
    go_ret
    exact ⟨rfl, rfl⟩
  | true =>
    have H := Lib.hid (specValid_is s hs true hv)
    have h30 := fcValid_len hv
    rw [hlen] at h30
    have hend : longV s.data.toList = (mostTo s.data.toList s.size : Int) := by rw [longV_on hv, ← most_same (fcValid_ok hv), hlen]
    rw [hend]
    have Hlen := Lib.hid hlen
    have Hsz : Hid (∀ k (h : k < s.size), s.data.toList[k]? = some s[k]) := fun k h => at_list s k h
    clear hv hlen hend hs
    go_enter Tryd.func7, Tryd.ntmps7
    go_wp2_with (first | (go_at_call 14; refine (H.out _).mono ?_; rintro e w' ⟨rfl, rfl⟩))
    go_loop [3, 4, 5] (fun a b i => ∃ k x y : Nat, k ≤ s.size ∧ i = .int .i64 k ∧ a = .int .i64 x ∧ b = .int .i64 y ∧ Hid (x = mostTo s.data.toList k) ∧ Hid (y = nowTo s.data.toList k)) (fun _ _ i => s.size - (intOf i).toNat)
    case atStart => exact ⟨0, 0, 0, by omega, rfl, rfl, rfl, rfl, rfl⟩
    case round =>
      obtain ⟨k, x, y, hk, rfl, rfl, rfl, hx, hy⟩ := hrel
      have hx30 : x ≤ 30 := by have := mostTo_le s.data.toList k; have := hx.out; omega
      have hy30 : y ≤ 30 := by have := nowTo_le s.data.toList k; have := hy.out; omega
      by_cases hlt : k < s.size
      · have hget := Hsz.out k hlt
        by_cases h1 : (s[k].toNat : Int) = 120
        · have h1' : ((s[k].toNat : Int) == 120) = true := by simpa using h1
          have hc : s.data.toList[k]? = some 120 := by rw [hget]; exact congrArg some (beq_iff_eq.1 ((byte_eq s[k] 120 (by omega)).trans h1'))
          have e2 : Hid (nowTo s.data.toList (k + 1) = 0) := by show _ = _; rw [nowTo, if_pos hc]
          have e1 : Hid (mostTo s.data.toList (k + 1) = x) := by show _ = _; rw [mostTo, e2.out, hx.out]; simp
          have hx0 : ¬ (x : Int) < 0 := by omega
          clear h1 hc hget
          go_wp2
          go_round
          case rel => exact ⟨k + 1, x, 0, by omega, by go_num, by go_num, by go_num, e1.out.symm, e2.out.symm⟩
          case measure => simp [intOf]; omega
        · have h1' : ((s[k].toNat : Int) == 120) = false := by simpa using h1
          have hc : ¬ s.data.toList[k]? = some 120 := by
            rw [hget]
            intro e
            injection e with e
            have h2 := (byte_eq s[k] 120 (by omega)).trans h1'
            rw [e] at h2
            exact absurd h2 (by decide)
          have e2 : Hid (nowTo s.data.toList (k + 1) = y + 1) := by show _ = _; rw [nowTo, if_neg hc, hy.out]
          have e1 : Hid (mostTo s.data.toList (k + 1) = max x (y + 1)) := by show _ = _; rw [mostTo, e2.out, hx.out]
          clear h1 hc hget
          by_cases hxy : (y : Int) + 1 ≤ x
          · have hxy' : ¬ (x : Int) < y + 1 := by omega
            go_wp2
            go_round
            case rel => exact ⟨k + 1, x, y + 1, by omega, by go_num, by go_num, by go_num, by show _ = _; rw [e1.out]; omega, e2.out.symm⟩
            case measure => simp [intOf]; omega
          · have hxy' : (x : Int) < y + 1 := by omega
            go_wp2
            go_round
            case rel => exact ⟨k + 1, y + 1, y + 1, by omega, by go_num, by go_num, by go_num, by show _ = _; rw [e1.out]; omega, e2.out.symm⟩
            case measure => simp [intOf]; omega
      · obtain rfl : k = s.size := by omega
        go_wp2
        go_ret
        exact ⟨ret_int (by rw [hx.out]), rfl⟩
set_option maxRecDepth 100000 in
theorem implLongest (s : ByteArray) (hs : s.size ≤ maxLen) (w : World) (hT : Tab w) :
    Calls Tryd.prog 8 #[.string s] w fun e w' => e = .returned (.int .i64 (longV s.data.toList)) ∧ Below w.heap.size w w' := by
  have hlen : s.data.toList.length = s.size := by simp
  cases hv : fcValid s.data.toList with
  | false =>
    rw [longV_off hv]
    have H := Lib.hid (forecastOf_no s hs hv)
    clear hv
    go_enter Tryd.func8, Tryd.ntmps8
    go_wp2_with (first | (go_at_call 15; refine (H.out _).mono ?_; rintro e w1 ⟨m, rfl, hb⟩))
    go_ret
    exact ⟨rfl, hb.alloc hb.size _⟩
  | true =>
    obtain ⟨h1, h2⟩ := (fcValid_iff s).1 hv
    have H := Lib.hid (forecastOf_yes s h2 h1)
    have HR := Lib.hid (fun d hd w hT => run_any s.data.toList (by omega) s.size d hd w hT)
    have hend : Hid (longV s.data.toList = (mostRun s.data.toList s.size : Int)) := by show _ = _; rw [longV_on hv, hlen]
    obtain ⟨m, hm⟩ : ∃ m, m = maskL s.data.toList := ⟨_, rfl⟩
    rw [← hm] at H HR
    have hml : Hid (∀ d, mostRun s.data.toList d ≤ s.size) := fun d => by rw [← hlen]; exact mostRun_le _ _
    have hrl : Hid (∀ d, runAt s.data.toList d ≤ s.size) := fun d => by have := runAt_le s.data.toList d; omega
    have HTab := Lib.hid hT
    rw [hend.out]
    clear hv h1 hlen hm hT hend hs
    go_enter Tryd.func8, Tryd.ntmps8
    go_wp2_with fail
    refine (H.out _).mono ?_
    rintro e w1 ⟨rfl, hb⟩
    have hrow := Row.newS w1 33 #[.int .u32 m, .int .i64 s.size] (g := w1.heap.size) rfl rfl
    have hb1 : Below w.heap.size w (w1.alloc (Obj.cells #[.int .u32 m, .int .i64 s.size] 33)) := hb.alloc hb.size _
    have hs1 := hb.size
    clear hb
    go_wp2_with fail
    go_loopw [5, 16] (fun a i wr => ∃ k x : Nat, k ≤ s.size ∧ i = .int .i64 k ∧ a = .int .i64 x ∧ Hid (x = mostRun s.data.toList k) ∧ Row wr w1.heap.size 33 [.int .u32 m, .int .i64 s.size] ∧ Below w.heap.size w wr) (fun _ i _ => s.size - (intOf i).toNat)
    case atStart => exact ⟨0, 0, by omega, rfl, rfl, rfl, hrow, hb1⟩
    case round =>
      clear hrow hb1
      obtain ⟨k, x, hk, rfl, rfl, hx, hr, hbel⟩ := hrel
      have hx30 : x ≤ s.size := by rw [hx.out]; exact hml.out k
      by_cases hlt : k < s.size
      · have c0 := hr.cellI (i := 0) rfl
        have c1 := hr.cellI (i := 1) rfl
        have hT2 := Lib.hid (HTab.out.below hbel (Nat.lt_of_lt_of_le HTab.out.1 (Nat.le_refl _)))
        go_wp2_with fail
        refine (HR.out k (by omega) _ hT2.out).mono ?_
        rintro e w2 ⟨rfl, hb2⟩
        have hr2 := hr.below hb2 hr.lt
        replace hb2 := hbel.trans (hb2.mono hbel.size)
        have hy30 := hrl.out k
        obtain ⟨y, hy⟩ : ∃ y, y = runAt s.data.toList k := ⟨_, rfl⟩
        have e1 : Hid (mostRun s.data.toList (k + 1) = max x y) := by show _ = _; rw [mostRun, hx.out, hy]
        rw [← hy] at hy30 ⊢
        clear hy c0 c1 hr hbel
        by_cases hxy : (y : Int) ≤ x
        · have hxy' : ¬ (x : Int) < y := by omega
          go_wp2_with fail
          go_roundw
          case rel => exact ⟨k + 1, x, by omega, by go_num, rfl, by show _ = _; rw [e1.out]; omega, hr2, hb2⟩
          case measure => simp [intOf]; omega
        · have hxy' : (x : Int) < y := by omega
          go_wp2_with fail
          go_roundw
          case rel => exact ⟨k + 1, y, by omega, by go_num, rfl, by show _ = _; rw [e1.out]; omega, hr2, hb2⟩
          case measure => simp [intOf]; omega
      · obtain rfl : k = s.size := by omega
        go_wp2_with fail
        go_ret
        exact ⟨ret_int (by rw [hx.out]), hbel⟩
end Go.Proofs.YtmccicgpgcidoaaDoor
