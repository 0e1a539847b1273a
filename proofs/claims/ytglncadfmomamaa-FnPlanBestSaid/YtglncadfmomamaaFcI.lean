/- The program's forecast functions, walked. -/
import Derived.Test.YtglncadfmomamaaFcS
import Derived.Lib.Tables
import Derived.Lib.BitFns
import Derived.IntWalk
import Derived.WalkSmall
namespace Go.Proofs.Ytglncadfmomamaa
set_option linter.unusedVariables false
set_option linter.unusedSimpArgs false
open Go.RowKit


set_option maxRecDepth 100000 in
/-- Go's table of the numbers of bits, as the loaded program holds it. -/
theorem fold_pop : (⟨(([0, 1, 1, 2, 1, 2, 2, 3, 1, 2, 2, 3, 2, 3, 3, 4, 1, 2, 2, 3, 2, 3, 3, 4, 2, 3, 3, 4, 3, 4, 4, 5, 1, 2, 2, 3, 2, 3, 3, 4, 2, 3, 3, 4, 3, 4, 4, 5, 2, 3, 3, 4, 3, 4, 4, 5, 3, 4, 4, 5, 4, 5, 5, 6].append [1, 2, 2, 3, 2, 3, 3, 4, 2, 3, 3, 4, 3, 4, 4, 5, 2, 3, 3, 4, 3, 4, 4, 5, 3, 4, 4, 5, 4, 5, 5, 6, 2, 3, 3, 4, 3, 4, 4, 5, 3, 4, 4, 5, 4, 5, 5, 6, 3, 4, 4, 5, 4, 5, 5, 6, 4, 5, 5, 6, 5, 6, 6, 7]).append ([1, 2, 2, 3, 2, 3, 3, 4, 2, 3, 3, 4, 3, 4, 4, 5, 2, 3, 3, 4, 3, 4, 4, 5, 3, 4, 4, 5, 4, 5, 5, 6, 2, 3, 3, 4, 3, 4, 4, 5, 3, 4, 4, 5, 4, 5, 5, 6, 3, 4, 4, 5, 4, 5, 5, 6, 4, 5, 5, 6, 5, 6, 6, 7].append [2, 3, 3, 4, 3, 4, 4, 5, 3, 4, 4, 5, 4, 5, 5, 6, 3, 4, 4, 5, 4, 5, 5, 6, 4, 5, 5, 6, 5, 6, 6, 7, 3, 4, 4, 5, 4, 5, 5, 6, 4, 5, 5, 6, 5, 6, 6, 7, 4, 5, 5, 6, 5, 6, 6, 7, 5, 6, 6, 7, 6, 7, 7, 8])).toArray⟩ : ByteArray) = Lib.pop8tab := by kernel_rfl
theorem pop8_bd (b : Int) (h0 : 0 ≤ b) (h1 : b ≤ 255) : 0 ≤ Lib.pop8 b ∧ Lib.pop8 b ≤ 8 := by
  have e := Lib.pop8_eq ⟨b.toNat, by omega⟩
  have l := Lib.onesCount_le8 ⟨b.toNat, by omega⟩
  simp only [Int.toNat_of_nonneg h0] at e
  simp only at l
  omega
theorem pop8_bc8 : ∀ n : Fin 256, Lib.pop8 (n.val : Int) = (bc 8 n.val : Int) := by decide +kernel
theorem pop8_bc (n : Nat) (b : Int) (hb : b = (n % 256 : Nat)) : Lib.pop8 b = (bc 8 n : Int) := by
  subst hb
  have := pop8_bc8 ⟨n % 256, by omega⟩
  simp only at this
  rw [this, show (256 : Nat) = 2 ^ 8 from rfl, bc_mod _ _ _ (Nat.le_refl _)]
theorem ones_sum (x : Nat) (hx : x < 4294967296) : Lib.pop8 ((x : Int) / 16777216) + Lib.pop8 ((x : Int) / 65536 % 256) + Lib.pop8 ((x : Int) / 256 % 256) + Lib.pop8 ((x : Int) % 256) = (bc 32 x : Int) := by
  rw [show 32 = 8 + (8 + (8 + 8)) from rfl, bc_add, bc_add, bc_add, Nat.div_div_eq_div_mul, Nat.div_div_eq_div_mul, ← Nat.pow_add, ← Nat.pow_add]
  rw [pop8_bc (x / 2 ^ (8 + 8 + 8)) _ (by simp; omega), pop8_bc (x / 2 ^ (8 + 8)) _ (by simp), pop8_bc (x / 2 ^ 8) _ (by simp), pop8_bc x _ (by simp)]
  omega
set_option maxRecDepth 100000 in
theorem ones32 (x : Nat) (hx : x < 4294967296) (w : World) :
    Calls Try.prog 86 #[.int .u32 x] w fun e w' => e = .returned (.int .i64 (bc 32 x)) ∧ ∃ k, w' = w.drewN k := by
  have p1 := pop8_bd (x / 16777216) (by omega) (by omega)
  have p2 := pop8_bd (x / 65536 % 256) (by omega) (by omega)
  have p3 := pop8_bd (x / 256 % 256) (by omega) (by omega)
  have p4 := pop8_bd (x % 256) (by omega) (by omega)
  obtain ⟨p11, p12⟩ := p1
  obtain ⟨p21, p22⟩ := p2
  obtain ⟨p31, p32⟩ := p3
  obtain ⟨p41, p42⟩ := p4
  have q1 : 0 ≤ (x : Int) / 16777216 := by omega
  have q2 : (x : Int) / 16777216 ≤ 255 := by omega
  have e2 : bits .and .u32 ((x : Int) / 65536) 255 = (x : Int) / 65536 % 256 := by
    have := u32_and_255 (x / 65536) (by omega); rwa [show ((x / 65536 : Nat) : Int) = (x : Int) / 65536 by omega] at this
  have e3 : bits .and .u32 ((x : Int) / 256) 255 = (x : Int) / 256 % 256 := by
    have := u32_and_255 (x / 256) (by omega); rwa [show ((x / 256 : Nat) : Int) = (x : Int) / 256 by omega] at this
  have e4 := u32_and_255 x hx
  go_enter Try.func86, Try.ntmps86
  go_wp2
  rw [fold_pop]
  go_quiet (fail)
  go_wp2
  go_ret
  exact ⟨ret_int (ones_sum x hx), nq, rfl⟩

theorem and_low (m d : Nat) (hm : m < 4294967296) (hd : d ≤ 31) : bits .and .u32 (m : Int) (((2 : Int) ^ d - 1) % 4294967296) = ((m % 2 ^ d : Nat) : Int) := by
  have h1 : 2 ^ d ≤ 2 ^ 31 := Nat.pow_le_pow_right (by omega) hd
  have h0 := Nat.two_pow_pos d
  have e : ((2 : Int) ^ d - 1) % 4294967296 = ((2 ^ d - 1 : Nat) : Int) := by
    rw [show ((2 : Int) ^ d) = ((2 ^ d : Nat) : Int) by norm_cast]
    omega
  rw [e, u32_and_nat m _ hm (by omega), Nat.and_two_pow_sub_one_eq_mod]
/-- Open days ahead of a day, by the bits. -/
theorem ahead_any (m D d : Nat) (hm : m < 4294967296) (hd : d ≤ 31) (w : World) :
    Calls Try.prog 68 #[.agg #[.int .u32 m, .int .i64 D], .int .i64 d] w fun e w' => e = .returned (.int .i64 (bc 32 (m % 2 ^ d))) ∧ Below w.heap.size w w' := by
  have hl := and_low m d hm hd
  have hr' : m % 2 ^ d ≤ m := Nat.mod_le _ _
  obtain ⟨r, hr⟩ : ∃ r, r = m % 2 ^ d := ⟨_, rfl⟩
  rw [← hr] at hl hr' ⊢
  clear hr
  go_enter Try.func68, Try.ntmps68
  go_wp2
  go_quiet ((go_at_call 86; exact Calls.quiet_of (ones32 r (by omega) _)))
  go_wp2
  go_ret
  exact ⟨rfl, below_drewN ((Below.refl _ _).alloc (Nat.le_refl _) _) _⟩

theorem or_high (m k : Nat) (hm : m < 2 ^ k) (hk : k ≤ 31) : bits .or .u32 (m : Int) ((2 : Int) ^ k % 4294967296) = ((m + 2 ^ k : Nat) : Int) := by
  have h1 : 2 ^ k ≤ 2 ^ 31 := Nat.pow_le_pow_right (by omega) hk
  have e : (2 : Int) ^ k % 4294967296 = ((2 ^ k : Nat) : Int) := by
    rw [show ((2 : Int) ^ k) = ((2 ^ k : Nat) : Int) by norm_cast]
    omega
  rw [e, u32_or_nat m _ (by omega) (by omega)]
  have := Nat.two_pow_add_eq_or_of_lt hm 1
  rw [Nat.mul_one] at this
  rw [Nat.or_comm, ← this, Nat.add_comm]
theorem fcOk_at {l : List UInt8} {c : UInt8} {k : Nat} (h : fcOk l = true) (hc : l[k]? = some c) : (c.toNat : Int) = 111 ∨ (c.toNat : Int) = 120 := by
  unfold fcOk at h
  rw [List.all_eq_true] at h
  have := h c (List.mem_of_getElem? hc)
  simp only [Bool.or_eq_true, beq_iff_eq] at this
  rcases this with rfl | rfl
  · left; rfl
  · right; rfl

theorem forecastOf_yes (s : ByteArray) (hs : s.size ≤ 30) (hv : fcOk s.data.toList = true) (w : World) :
    Calls Try.prog 67 #[.string s] w fun e w' => e = .returned (.tuple #[.agg #[.int .u32 (maskL s.data.toList), .int .i64 s.size], .bool true]) ∧ Below w.heap.size w w' := by
  have hlen : s.data.toList.length = s.size := by simp
  have Hv := Lib.hid hv
  have Hlen := Lib.hid hlen
  clear hv hlen
  go_enter Try.func67, Try.ntmps67
  go_wp2
  go_loopw [15] (fun i wr => ∃ (k m : Nat), k ≤ s.size ∧ i = .int .i64 k ∧ m < 2 ^ k ∧ Hid (m = maskL (s.data.toList.take k)) ∧ Row wr (w.heap.size + 1) 64 [.int .u32 m, .int .i64 s.size] ∧ Row wr w.heap.size 64 [.int .u32 0, .int .i64 0] ∧ Below w.heap.size w wr) (fun i _ => s.size - (intOf i).toNat)
  case atStart => exact ⟨0, 0, by omega, rfl, by omega, rfl, Row.newS _ _ _ (by simp) rfl, (Row.newS _ _ _ rfl rfl).alloc _, ((Below.refl _ _).alloc (Nat.le_refl _) _).alloc (by simp) _⟩
  case round =>
    obtain ⟨k, m, hk, rfl, hm, Hm, hr, hr0, hbel⟩ := hrel
    have r1 := hr.cell 0
    have r2 := hr.cell 1
    have r3 := hr.frozen 0
    have r4 := hr0.cell 0
    have r5 := hr0.cell 1
    have r6 := hr0.frozen 0
    have r7 := hr0.frozen 1
    by_cases hlt : k < s.size
    · have hc := Lib.hid (at_list s k hlt)
      have hb := or_high m k hm (by omega)
      have hm2 : m < 2 ^ 31 := Nat.lt_of_lt_of_le hm (Nat.pow_le_pow_right (by omega) (by omega))
      obtain ⟨m', hm'⟩ : ∃ m', m' = m + 2 ^ k := ⟨_, rfl⟩
      rw [← hm'] at hb
      have Hm' := Lib.hid hm'
      clear hm'
      rcases fcOk_at Hv.out hc.out with h1 | h1
      · have h1' : ((s[k].toNat : Int) == 111) = true := by simpa using h1
        clear h1
        go_wp2
        go_region
        go_wp2
        go_roundw
        case rel => exact ⟨k + 1, m', by omega, by go_num, by rw [Hm'.out, Nat.pow_succ]; omega, by
          unfold Hid
          rw [Hm'.out, Hm.out, List.take_add_one, hc.out, Option.toList_some, maskL_snoc, show (s[k] == (111 : UInt8)) = true from (byte_eq _ 111 (by omega)).trans h1', List.length_take, Hlen.out, Nat.min_eq_left (by omega)]
          rfl, (hr.set 0 _).drew, (hr0.far (by simp) _).drew, (hbel.setCell (by simp) _).drew⟩
        case measure => simp [intOf]; omega
      · have h1' : ((s[k].toNat : Int) == 111) = false := by rw [h1]; rfl
        have h2' : ((s[k].toNat : Int) == 120) = true := by rw [h1]; rfl
        clear h1
        go_wp2
        go_roundw
        case rel => exact ⟨k + 1, m, by omega, by go_num, by rw [Nat.pow_succ]; omega, by
          unfold Hid
          rw [Hm.out, List.take_add_one, hc.out, Option.toList_some, maskL_snoc, show (s[k] == (111 : UInt8)) = false from (byte_eq _ 111 (by omega)).trans h1']
          simp, hr, hr0, hbel⟩
        case measure => simp [intOf]; omega
    · obtain rfl : k = s.size := by omega
      go_wp2
      refine ret_row_tmp rfl _ _ _ _ rfl ((hr0.set 0 _).set 1 _) Try.underlying64 rfl (by kernel_rfl) rfl ⟨?_, (hbel.setCell (by simp) _).setCell (by simp) _⟩
      have e : maskL s.data.toList = m := by rw [Hm.out, List.take_of_length_le (by rw [Hlen.out]; exact Nat.le_refl _)]
      rw [e]; rfl

theorem forecastOf_long (s : ByteArray) (hs0 : s.size ≤ maxLen) (hs : 30 < s.size) (w : World) :
    Calls Try.prog 67 #[.string s] w fun e w' => e = .returned (.tuple #[.agg #[.int .u32 0, .int .i64 s.size], .bool false]) ∧ Below w.heap.size w w' := by
  unfold maxLen at hs0
  go_enter Try.func67, Try.ntmps67
  go_wp2
  refine ret_row_tmp rfl w.heap.size 64 [.int .u32 0, .int .i64 s.size] _ rfl ?_ Try.underlying64 rfl (by kernel_rfl) rfl ⟨rfl, ?_⟩
  · exact ((Row.newS _ _ _ rfl rfl).alloc _)
  · exact ((Below.refl _ _).alloc (Nat.le_refl _) _).alloc (by simp) _
/-- What a text that is no forecast gives. -/
def NoFc (n : Nat) (w : World) (e : Ending) (w' : World) : Prop := ∃ m : Nat, e = .returned (.tuple #[.agg #[.int .u32 m, .int .i64 n], .bool false]) ∧ Below w.heap.size w w'
theorem forecastOf_bad (s : ByteArray) (hs : s.size ≤ 30) (hv : fcOk s.data.toList = false) (w : World) :
    Calls Try.prog 67 #[.string s] w (NoFc s.size w) := by
  have hlen : s.data.toList.length = s.size := by simp
  have Hv := Lib.hid hv
  have Hlen := Lib.hid hlen
  clear hv hlen
  go_enter Try.func67, Try.ntmps67
  go_wp2
  go_loopw [15] (fun i wr => ∃ (k m : Nat), k ≤ s.size ∧ i = .int .i64 k ∧ m < 2 ^ k ∧ Hid ((s.data.toList.take k).all (fun c => c == 111 || c == 120) = true) ∧ Row wr (w.heap.size + 1) 64 [.int .u32 m, .int .i64 s.size] ∧ Row wr w.heap.size 64 [.int .u32 0, .int .i64 0] ∧ Below w.heap.size w wr) (fun i _ => s.size - (intOf i).toNat)
  case atStart => exact ⟨0, 0, by omega, rfl, by omega, by simp [Hid], Row.newS _ _ _ (by simp) rfl, (Row.newS _ _ _ rfl rfl).alloc _, ((Below.refl _ _).alloc (Nat.le_refl _) _).alloc (by simp) _⟩
  case round =>
    obtain ⟨k, m, hk, rfl, hm, hall, hr, hr0, hbel⟩ := hrel
    have r1 := hr.cell 0
    have r2 := hr.cell 1
    have r3 := hr.frozen 0
    have r4 := hr0.cell 0
    have r5 := hr0.cell 1
    have r6 := hr0.frozen 0
    have r7 := hr0.frozen 1
    by_cases hlt : k < s.size
    · have hc := Lib.hid (at_list s k hlt)
      have hb := or_high m k hm (by omega)
      have hm2 : m < 2 ^ 31 := Nat.lt_of_lt_of_le hm (Nat.pow_le_pow_right (by omega) (by omega))
      obtain ⟨m', hm'⟩ : ∃ m', m' = m + 2 ^ k := ⟨_, rfl⟩
      rw [← hm'] at hb
      have Hm' := Lib.hid hm'
      clear hm'
      by_cases h1 : (s[k].toNat : Int) = 111
      · have h1' : ((s[k].toNat : Int) == 111) = true := by simpa using h1
        clear h1
        go_wp2
        go_region
        go_wp2
        go_roundw
        case rel => exact ⟨k + 1, m', by omega, by go_num, by rw [Hm'.out, Nat.pow_succ]; omega, by unfold Hid; rw [all_take_succ hc.out, hall.out, show s[k] == (111 : UInt8) from (byte_eq _ 111 (by omega)).trans h1']; rfl, (hr.set 0 _).drew, (hr0.far (by simp) _).drew, (hbel.setCell (by simp) _).drew⟩
        case measure => simp [intOf]; omega
      · have h1' : ((s[k].toNat : Int) == 111) = false := by simpa using h1
        clear h1
        by_cases h2 : (s[k].toNat : Int) = 120
        · have h2' : ((s[k].toNat : Int) == 120) = true := by simpa using h2
          clear h2
          go_wp2
          go_roundw
          case rel => exact ⟨k + 1, m, by omega, by go_num, by rw [Nat.pow_succ]; omega, by unfold Hid; rw [all_take_succ hc.out, hall.out, show (s[k] == (120 : UInt8)) = true from (byte_eq _ 120 (by omega)).trans h2']; simp, hr, hr0, hbel⟩
          case measure => simp [intOf]; omega
        · have h2' : ((s[k].toNat : Int) == 120) = false := by simpa using h2
          clear h2
          go_wp2
          refine ret_row_tmp rfl _ _ _ _ rfl ((hr0.set 0 _).set 1 _) Try.underlying64 rfl (by kernel_rfl) rfl ⟨m, rfl, (hbel.setCell (by simp) _).setCell (by simp) _⟩
    · exfalso
      obtain rfl : k = s.size := by omega
      have hf : fcOk s.data.toList = true := by
        have := hall.out
        rwa [List.take_of_length_le (by simp)] at this
      have := Hv.out
      rw [hf] at this
      cases this
theorem forecastOf_no (s : ByteArray) (hs : s.size ≤ maxLen) (hv : fcValid s.data.toList = false) (w : World) :
    Calls Try.prog 67 #[.string s] w (NoFc s.size w) := by
  by_cases h : s.size ≤ 30
  · refine forecastOf_bad s h ?_ w
    unfold fcValid at hv
    simp at hv
    cases hf : fcOk s.data.toList
    · rfl
    · have := hv hf; omega
  · exact (forecastOf_long s hs (by omega) w).mono fun _ _ ⟨he, hb⟩ => ⟨0, he, hb⟩
theorem fcValid_iff (s : ByteArray) : fcValid s.data.toList = true ↔ fcOk s.data.toList = true ∧ s.size ≤ 30 := by
  unfold fcValid; simp

/-- The end of work by the bits of a forecast. -/
def fcEnd (l : List UInt8) (work : Int) : Int := if 0 ≤ work ∧ work ≤ fcAhead l l.length then (fcDayN l work.toNat : Int) else -1
theorem fcEnd_on {l : List UInt8} {k : Nat} (hd : k ≤ fcAhead l l.length) : fcEnd l k = (fcDayN l k : Int) := by
  unfold fcEnd; rw [if_pos ⟨by omega, by omega⟩, Int.toNat_natCast]
theorem fcEnd_off {l : List UInt8} {k : Int} (h : ¬ (0 ≤ k ∧ k ≤ fcAhead l l.length)) : fcEnd l k = -1 := by
  unfold fcEnd; rw [if_neg h]
theorem ahead_fc (l : List UInt8) (hl : l.length ≤ 30) (d : Int) (h0 : 0 ≤ d) (hd : d ≤ 30) (w : World) :
    Calls Try.prog 68 #[.agg #[.int .u32 (maskL l), .int .i64 l.length], .int .i64 d] w fun e w' => e = .returned (.int .i64 (fcAhead l d.toNat)) ∧ Below w.heap.size w w' := by
  obtain ⟨k, rfl⟩ := Int.eq_ofNat_of_zero_le h0
  have hm := maskL_lt l
  have h1 : 2 ^ l.length ≤ 2 ^ 30 := Nat.pow_le_pow_right (by omega) hl
  refine (ahead_any (maskL l) l.length k (by omega) (by omega) w).mono fun _ _ ⟨he, hb⟩ => ⟨?_, hb⟩
  rw [he, bc_ahead l k (by omega)]; rfl
theorem end_fc (l : List UInt8) (hl : l.length ≤ 30) (work : Int) (w : World) :
    Calls Try.prog 77 #[.agg #[.int .u32 (maskL l), .int .i64 l.length], .int .i64 work] w fun e w' => e = .returned (.int .i64 (fcEnd l work)) ∧ Below w.heap.size w w' := by
  have HA := Lib.hid (ahead_fc l hl)
  have hle := fcAhead_le l l.length
  obtain ⟨m, hm⟩ : ∃ m, m = maskL l := ⟨_, rfl⟩
  rw [← hm] at HA ⊢
  clear hm
  by_cases h0 : 0 ≤ work
  · by_cases h1 : work ≤ fcAhead l l.length
    · obtain ⟨k, rfl⟩ := Int.eq_ofNat_of_zero_le h0
      rw [fcEnd_on (by omega)]
      have g1 : decide (fcAhead l l.length < k) = false := decide_eq_false (by omega)
      have g2 : decide ((k : Int) < 0) = false := decide_eq_false (by omega)
      go_enter Try.func77, Try.ntmps77
      go_wp2_with fail
      refine (HA.out _ (by omega) (by omega) _).mono ?_
      rintro e w1 ⟨rfl, hb⟩
      rw [Int.toNat_natCast]
      have hr := (Row.new w 64 [.int .u32 m, .int .i64 l.length]).below hb (by simp)
      have hb1 : Below w.heap.size w w1 := ((Below.refl _ _).alloc (Nat.le_refl _) _).trans (hb.mono (by simp))
      clear hb
      go_wp2_with fail
      go_loopw [5] (fun i wr => ∃ d : Nat, d ≤ l.length ∧ i = .int .i64 d ∧ Hid (∀ e, e < d → fcAhead l e < k) ∧ Row wr w.heap.size 64 [.int .u32 m, .int .i64 l.length] ∧ Below w.heap.size w wr) (fun i _ => l.length - (intOf i).toNat)
      case atStart => exact ⟨0, by omega, rfl, fun e he => by omega, hr, hb1⟩
      case round =>
        obtain ⟨d, hd, rfl, hless, hr, hbel⟩ := hrel
        have r1 := hr.cell 0
        have r2 := hr.cell 1
        have hbd := fcAhead_le l d
        by_cases hlt : fcAhead l d < k
        · have hdl : d < l.length := by
            rcases Nat.lt_or_ge d l.length with h | h
            · exact h
            · obtain rfl : d = l.length := by omega
              omega
          go_wp2_with fail
          refine (HA.out _ (by omega) (by omega) _).mono ?_
          rintro e w2 ⟨rfl, hb⟩
          rw [Int.toNat_natCast]
          have hr2 := hr.below hb hr.lt
          have hb2 : Below w.heap.size w w2 := hbel.trans (hb.mono hbel.size)
          clear hb
          go_wp2_with fail
          have hnext : Hid (∀ e, e < d + 1 → fcAhead l e < k) := fun e he => by
            rcases (by omega : e < d ∨ e = d) with h | rfl
            · exact hless.out e h
            · exact hlt
          go_roundw
          case rel => exact ⟨d + 1, by omega, by go_num, hnext, hr2, hb2⟩
          case measure => simp [intOf]; omega
        · go_wp2_with fail
          refine (HA.out _ (by omega) (by omega) _).mono ?_
          rintro e w2 ⟨rfl, hb⟩
          rw [Int.toNat_natCast]
          have hb2 : Below w.heap.size w w2 := hbel.trans (hb.mono hbel.size)
          clear hb
          go_wp2_with fail
          go_ret
          exact ⟨ret_int (by rw [fcDayN_eq l k d (by omega) (by omega) hless.out]), hb2⟩
    · rw [fcEnd_off (by omega)]
      go_enter Try.func77, Try.ntmps77
      go_wp2_with fail
      refine (HA.out _ (by omega) (by omega) _).mono ?_
      rintro e w1 ⟨rfl, hb⟩
      rw [Int.toNat_natCast]
      have hb1 : Below w.heap.size w w1 := ((Below.refl _ _).alloc (Nat.le_refl _) _).trans (hb.mono (by simp))
      clear hb
      go_wp2_with fail
      go_ret
      exact ⟨rfl, hb1⟩
  · rw [fcEnd_off (by omega)]
    go_enter Try.func77, Try.ntmps77
    go_wp2
    go_ret
    exact ⟨rfl, (Below.refl _ _).alloc (Nat.le_refl _) _⟩

theorem fcDay_end {l : List UInt8} {work : Int} (h : fcValid l = true) : fcDay l work = fcEnd l work := by
  unfold fcDay fcEnd; simp [h]
theorem implDay (s : ByteArray) (hs : s.size ≤ maxLen) (work : Int) (w : World) :
    Calls Try.prog 45 #[.string s, .int .i64 work] w fun e w' => e = .returned (.int .i64 (fcDay s.data.toList work)) ∧ Below w.heap.size w w' := by
  have hlen : s.data.toList.length = s.size := by simp
  by_cases hv : fcValid s.data.toList = true
  · obtain ⟨h1, h2⟩ := (fcValid_iff s).1 hv
    rw [fcDay_end hv]
    have H := Lib.hid (forecastOf_yes s h2 h1)
    have HE := Lib.hid (end_fc s.data.toList (by omega))
    rw [hlen] at HE
    clear hv h1 h2 hlen
    go_enter Try.func45, Try.ntmps45
    go_wp2_with fail
    refine (H.out _).mono ?_
    rintro e w1 ⟨rfl, hb⟩
    go_wp2_with fail
    refine (HE.out _ _).mono ?_
    rintro e w2 ⟨rfl, hb2⟩
    have hb3 : Below w.heap.size w w2 := (hb.alloc hb.size _).trans (hb2.mono (by have := hb.size; simp; omega))
    clear hb2 hb
    go_wp2_with fail
    go_ret
    exact ⟨rfl, hb3⟩
  · have hv : fcValid s.data.toList = false := by simpa using hv
    rw [fcDay_off (.inl hv)]
    have H := Lib.hid (forecastOf_no s hs hv)
    clear hv
    go_enter Try.func45, Try.ntmps45
    go_wp2_with (first | (go_at_call 67; refine (H.out _).mono ?_; rintro e w1 ⟨m, rfl, hb⟩))
    go_ret
    exact ⟨rfl, hb.alloc hb.size _⟩
theorem implOpen (s : ByteArray) (hs : s.size ≤ maxLen) (day : Int) (w : World) :
    Calls Try.prog 28 #[.string s, .int .i64 day] w fun e w' => e = .returned (.int .i64 (fcOpen s.data.toList day)) ∧ Below w.heap.size w w' := by
  have hlen : s.data.toList.length = s.size := by simp
  by_cases hv : fcValid s.data.toList = true
  · obtain ⟨h1, h2⟩ := (fcValid_iff s).1 hv
    have H := Lib.hid (forecastOf_yes s h2 h1)
    by_cases hd : 0 ≤ day ∧ day ≤ s.size
    · have HE := Lib.hid (ahead_fc s.data.toList (by omega))
      rw [hlen] at HE
      have hfin : fcOpen s.data.toList day = (fcAhead s.data.toList day.toNat : Int) := by
        unfold fcOpen; rw [if_pos ⟨hv, hd.1, by omega⟩]
      rw [hfin]
      clear hv h1 hlen hfin
      obtain ⟨hd1, hd2⟩ := hd
      go_enter Try.func28, Try.ntmps28
      go_wp2_with fail
      refine (H.out _).mono ?_
      rintro e w1 ⟨rfl, hb⟩
      go_wp2_with fail
      refine (within_yes _ _ _ (by omega) _).mono ?_
      rintro e w2 ⟨rfl, rfl⟩
      go_wp2_with fail
      refine (HE.out _ (by omega) (by omega) _).mono ?_
      rintro e w2 ⟨rfl, hb2⟩
      have hb3 : Below w.heap.size w w2 := (hb.alloc hb.size _).trans (hb2.mono (by have := hb.size; simp; omega))
      clear hb2 hb
      go_wp2_with fail
      go_ret
      exact ⟨rfl, hb3⟩
    · rw [fcOpen_off (.inr (by rw [hlen]; exact hd))]
      clear hv h1 hlen
      go_enter Try.func28, Try.ntmps28
      go_wp2_with fail
      refine (H.out _).mono ?_
      rintro e w1 ⟨rfl, hb⟩
      go_wp2_with fail
      refine (within_no _ _ _ hd _).mono ?_
      rintro e w2 ⟨rfl, rfl⟩
      go_wp2_with fail
      go_ret
      exact ⟨rfl, hb.alloc hb.size _⟩
  · have hv : fcValid s.data.toList = false := by simpa using hv
    rw [fcOpen_off (.inl hv)]
    have H := Lib.hid (forecastOf_no s hs hv)
    clear hv
    go_enter Try.func28, Try.ntmps28
    go_wp2_with (first | (go_at_call 67; refine (H.out _).mono ?_; rintro e w1 ⟨m, rfl, hb⟩))
    go_ret
    exact ⟨rfl, hb.alloc hb.size _⟩
end Go.Proofs.Ytglncadfmomamaa
