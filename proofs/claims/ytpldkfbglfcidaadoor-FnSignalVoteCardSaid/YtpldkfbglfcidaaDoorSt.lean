/- SignalVote of the reference and of the program, walked. -/
import Derived.Test.YtpldkfbglfcidaaDoorSf
import Derived.Test.YtpldkfbglfcidaaDoorOw8
namespace Go.Proofs.YtpldkfbglfcidaaDoor
set_option linter.unusedVariables false
set_option linter.unusedSimpArgs false
open Go.RowKit
/-- The pulse for which most of three vote. -/
def voteC (a b c : UInt8) : UInt8 := if a = b then a else if a = c then a else if b = c then b else 48
def voteTo (a b c : List UInt8) (n : Nat) : List UInt8 := (List.range n).map fun k => voteC (a.getD k 0) (b.getD k 0) (c.getD k 0)
theorem voteTo_length (a b c : List UInt8) (n : Nat) : (voteTo a b c n).length = n := by simp [voteTo]
theorem voteTo_succ {a b c : ByteArray} {k : Nat} (ha : k < a.size) (hb : k < b.size) (hc : k < c.size) : voteTo a.data.toList b.data.toList c.data.toList (k + 1) = voteTo a.data.toList b.data.toList c.data.toList k ++ [voteC a[k] b[k] c[k]] := by
  unfold voteTo
  rw [List.range_succ, List.map_append]
  simp only [List.map_cons, List.map_nil, List.getD, at_list a k ha, at_list b k hb, at_list c k hc]; rfl
def voteOk (a b c : List UInt8) : Bool := farOk a b && farOk a c
def voteS (a b c : List UInt8) : ByteArray := if voteOk a b c = true then ⟨(voteTo a b c a.length).toArray⟩ else ⟨#[]⟩
def voteR (a b c : List UInt8) (r : ByteArray) (ok : Bool) : Prop := r = voteS a b c ∧ ok = voteOk a b c
theorem voteR_one (a b c : List UInt8) : ∀ r ok r' ok', voteR a b c r ok → voteR a b c r' ok' → r = r' ∧ ok = ok' := fun _ _ _ _ h1 h2 => ⟨h1.1.trans h2.1.symm, h1.2.trans h2.2.symm⟩
def VotePost (a b c : List UInt8) (w : World) (e : Ending) (w' : World) : Prop := ∃ r ok, e = .returned (.tuple #[.string r, .bool ok]) ∧ voteR a b c r ok ∧ Below w.heap.size w w'
theorem farV_neg {a b : List UInt8} (h : farOk a b = false) : farV a b < 0 := by rw [farV_off h]; omega
theorem farV_pos {a b : List UInt8} (h : farOk a b = true) : ¬ farV a b < 0 := by rw [farV_on h]; omega
theorem farOk_n {a b : ByteArray} (h : farOk a.data.toList b.data.toList = true) : a.size = b.size ∧ a.size ≤ 80 := by
  unfold farOk sgValid at h
  simp only [Bool.and_eq_true, decide_eq_true_eq] at h
  obtain ⟨⟨_, h1⟩, _, h2⟩ := h
  simp at h1 h2
  exact ⟨h2, h1⟩
theorem byte_ne {a b : UInt8} (h : ¬ (a.toNat : Int) = b.toNat) : ¬ a = b := fun e => h (by rw [e])
theorem byte_is {a b : UInt8} (h : (a.toNat : Int) = b.toNat) : a = b := UInt8.toNat_inj.1 (by omega)
set_option maxHeartbeats 2000000 in
set_option maxRecDepth 100000 in
theorem specSt (a b c : ByteArray) (ha : a.size ≤ maxLen) (hb : b.size ≤ maxLen) (hc : c.size ≤ maxLen) (w : World) :
    Calls Tryd.prog 20 #[.string a, .string b, .string c] w (VotePost a.data.toList b.data.toList c.data.toList w) := by
  have HA := specSf a b ha hb
  have HC := specSf a c ha hc
  cases va : farOk a.data.toList b.data.toList with
  | false =>
    have hR : Hid (voteR a.data.toList b.data.toList c.data.toList ⟨#[]⟩ false) := ⟨by rw [voteS, voteOk, va]; rfl, by rw [voteOk, va]; rfl⟩
    have hneg := farV_neg va
    obtain ⟨x, hx⟩ : ∃ x, x = farV a.data.toList b.data.toList := ⟨_, rfl⟩
    rw [← hx] at hneg HA
    have H := Lib.hid HA
    clear HA HC hx va
    go_enter Tryd.func20, Tryd.ntmps20
    go_wp2_with fail
    refine (H.out _).mono ?_
    rintro e w1 ⟨rfl, hb1⟩
    go_wp2_with fail
    go_ret2
    exact ⟨_, _, rfl, hR.out, hb1⟩
  | true =>
    have hpos := farV_pos va
    obtain ⟨x, hx⟩ : ∃ x, x = farV a.data.toList b.data.toList := ⟨_, rfl⟩
    rw [← hx] at hpos HA
    have H := Lib.hid HA
    cases vc : farOk a.data.toList c.data.toList with
    | false =>
      have hR : Hid (voteR a.data.toList b.data.toList c.data.toList ⟨#[]⟩ false) := ⟨by rw [voteS, voteOk, va, vc]; rfl, by rw [voteOk, va, vc]; rfl⟩
      have hneg := farV_neg vc
      obtain ⟨y, hy⟩ : ∃ x, x = farV a.data.toList c.data.toList := ⟨_, rfl⟩
      rw [← hy] at hneg HC
      have H2 := Lib.hid HC
      clear HA HC hx va vc hy
      go_enter Tryd.func20, Tryd.ntmps20
      go_wp2_with fail
      refine (H.out _).mono ?_
      rintro e w1 ⟨rfl, hb1⟩
      go_wp2_with fail
      refine (H2.out _).mono ?_
      rintro e w2 ⟨rfl, hb2⟩
      go_wp2_with fail
      go_ret2
      exact ⟨_, _, rfl, hR.out, hb1.trans (hb2.mono hb1.size)⟩
    | true =>
      obtain ⟨hab, h80⟩ := farOk_n va
      obtain ⟨hac, _⟩ := farOk_n vc
      have hR : Hid (voteR a.data.toList b.data.toList c.data.toList ⟨(voteTo a.data.toList b.data.toList c.data.toList a.size).toArray⟩ true) := ⟨by rw [voteS, voteOk, va, vc]; simp, by rw [voteOk, va, vc]; rfl⟩
      have hposc := farV_pos vc
      obtain ⟨y, hy⟩ : ∃ x, x = farV a.data.toList c.data.toList := ⟨_, rfl⟩
      rw [← hy] at hposc HC
      have H2 := Lib.hid HC
      have Hab := Lib.hid hab
      have Hac := Lib.hid hac
      have HS : Hid (∀ k (h1 : k < a.size) (h2 : k < b.size) (h3 : k < c.size), voteTo a.data.toList b.data.toList c.data.toList (k + 1) = voteTo a.data.toList b.data.toList c.data.toList k ++ [voteC a[k] b[k] c[k]]) := fun k h1 h2 h3 => voteTo_succ h1 h2 h3
      clear HA HC hx va vc hy hab hac ha hb hc
      go_enter Tryd.func20, Tryd.ntmps20
      go_wp2_with fail
      refine (H.out _).mono ?_
      rintro e w1 ⟨rfl, hb1⟩
      go_wp2_with fail
      refine (H2.out _).mono ?_
      rintro e w2 ⟨rfl, hb2⟩
      replace hb2 := hb1.trans (hb2.mono hb1.size)
      go_wp2_with fail
      go_loopw [8, 9] (fun v i wr => ∃ (k : Nat), k ≤ a.size ∧ i = .int .i64 k ∧ v = .string ⟨(voteTo a.data.toList b.data.toList c.data.toList k).toArray⟩ ∧ Below w.heap.size w wr) (fun _ i _ => a.size - (intOf i).toNat)
      case atStart => exact ⟨0, by omega, rfl, rfl, hb2⟩
      case round =>
        obtain ⟨k, hk, rfl, rfl, hbel⟩ := hrel
        have hsz := hbel.size
        by_cases hlt : k < a.size
        · have hltb : k < b.size := by have := Hab.out; omega
          have hltc : k < c.size := by have := Hac.out; omega
          have hS := HS.out k hlt hltb hltc
          have hk1 : k + 1 ≤ a.size := by omega
          have hk2 : k + 1 ≤ b.size := by omega
          have hvl := voteTo_length a.data.toList b.data.toList c.data.toList k
          by_cases h1 : (a[k].toNat : Int) = b[k].toNat
          · have hv : voteC a[k] b[k] c[k] = a[k] := by unfold voteC; rw [if_pos (byte_is h1)]
            rw [hv] at hS
            replace hS := Lib.hid hS
            have t1 := bT h1
            clear h1 hv
            go_wp2_with fail
            go_quiet (fail)
            go_wp2_with fail
            go_roundw
            case rel => exact ⟨k + 1, by omega, by go_num, by rw [hS.out]; exact congrArg Value.string (str_snoc _ a k hlt), below_drewN hbel _⟩
            case measure => simp [intOf]; omega
          · have t1 := bF h1
            by_cases h2 : (a[k].toNat : Int) = c[k].toNat
            · have hv : voteC a[k] b[k] c[k] = a[k] := by unfold voteC; rw [if_neg (byte_ne h1), if_pos (byte_is h2)]
              rw [hv] at hS
              replace hS := Lib.hid hS
              have t2 := bT h2
              clear h1 h2 hv
              go_wp2_with fail
              go_quiet (fail)
              go_wp2_with fail
              go_roundw
              case rel => exact ⟨k + 1, by omega, by go_num, by rw [hS.out]; exact congrArg Value.string (str_snoc _ a k hlt), below_drewN hbel _⟩
              case measure => simp [intOf]; omega
            · have t2 := bF h2
              by_cases h3 : (b[k].toNat : Int) = c[k].toNat
              · have hv : voteC a[k] b[k] c[k] = b[k] := by unfold voteC; rw [if_neg (byte_ne h1), if_neg (byte_ne h2), if_pos (byte_is h3)]
                rw [hv] at hS
                replace hS := Lib.hid hS
                have t3 := bT h3
                clear h1 h2 h3 hv
                go_wp2_with fail
                go_quiet (fail)
                go_wp2_with fail
                go_quiet (fail)
                go_wp2_with fail
                go_roundw
                case rel => exact ⟨k + 1, by omega, by go_num, by rw [hS.out]; exact congrArg Value.string (str_snoc _ b k hltb), below_drewN hbel _⟩
                case measure => simp [intOf]; omega
              · have hv : voteC a[k] b[k] c[k] = 48 := by unfold voteC; rw [if_neg (byte_ne h1), if_neg (byte_ne h2), if_neg (byte_ne h3)]
                rw [hv] at hS
                replace hS := Lib.hid hS
                have t3 := bF h3
                clear h1 h2 h3 hv
                go_wp2_with fail
                go_quiet (fail)
                go_wp2_with fail
                go_quiet (fail)
                go_wp2_with fail
                go_roundw
                case rel => exact ⟨k + 1, by omega, by go_num, by rw [hS.out]; exact congrArg Value.string (str_one _ 48), below_drewN hbel _⟩
                case measure => simp [intOf]; omega
        · obtain rfl : k = a.size := by omega
          go_wp2_with fail
          go_ret2
          exact ⟨_, _, rfl, hR.out, hbel⟩
end Go.Proofs.YtpldkfbglfcidaaDoor
