/- The readers of codes by which the statements draw their inputs. -/
import Derived.Test.YtpldkfbglfcidaaDoorChecked
import Derived.Test.YtpldkfbglfcidaaDoorMem
import Derived.WalkLawsBesides
import Derived.WalkSpells
import Derived.WalkSmall
import Derived.Outline
import Derived.BigRegion
import Derived.BigQuiet
import Derived.Deep.QuietTactic
import Derived.Laws.BitsAllLaws
import Derived.Laws.BitsLemmas
namespace Go.Proofs.YtpldkfbglfcidaaDoor
set_option linter.unusedVariables false
set_option linter.unusedSimpArgs false
open Go.RowKit

theorem ofInt_i64r (a : Nat) (ha : a < 9223372036854775808) : (BitVec.ofInt 64 (a : Int)).toNat = a := by
  rw [BitVec.ofInt_natCast, BitVec.toNat_ofNat]; exact Nat.mod_eq_of_lt (by omega)
theorem i64_xor_nat (a b : Nat) (ha : a < 9223372036854775808) (hb : b < 9223372036854775808) : bits .xor .i64 (a : Int) (b : Int) = ((a ^^^ b : Nat) : Int) := by
  have hx : a ^^^ b < 2 ^ 63 := Nat.xor_lt_two_pow (by omega) (by omega)
  show IntKind.i64.wrap ((BitVec.ofInt 64 (a : Int) ^^^ BitVec.ofInt 64 (b : Int)).toNat : Int) = _
  rw [BitVec.toNat_xor, ofInt_i64r a ha, ofInt_i64r b hb, IntKind.wrap_i64]
  omega
/-- Block g is a reader at place p, over bytes below block B. -/
def Rd (w : World) (B g p : Nat) : Prop := ∃ (A : Option Addr) (n c : Nat), Row w g 61 [.slice A n c, .int .i64 p] ∧ B ≤ g ∧ n ≤ 2000 ∧
  (0 < n → ∃ b off, A = some ⟨b, off, none⟩ ∧ b < B ∧ ∀ j, j < n → ∃ v : Nat, v ≤ 255 ∧ w.cell? ⟨b, off + j, none⟩ = some (.int .u8 v))
theorem Rd.grown {w w' : World} {B g p : Nat} {row : Option Nat} (h : Rd w B g p) (hg : w.grownBy w' row) (hne : some g ≠ row) (hr : ∀ k, row = some k → B ≤ k) : Rd w' B g p := by
  obtain ⟨A, n, c, hrow, hB, hn, hb⟩ := h
  refine ⟨A, n, c, hrow.grown hg hne, hB, hn, fun h0 => ?_⟩
  obtain ⟨b, off, rfl, hbB, hc⟩ := hb h0
  refine ⟨b, off, rfl, hbB, fun j hj => ?_⟩
  obtain ⟨v, hv, hcell⟩ := hc j hj
  exact ⟨v, hv, hg.cell hcell (by rintro e; have := hr _ e.symm; simp at this; omega)⟩
/-- What pick gives. -/
def Pk (n v : Int) : Prop := 0 ≤ v ∧ (1 ≤ n → v < n) ∧ (n < 1 → v = 0)
def PickPost (B g p : Nat) (n : Int) (w : World) (e : Ending) (w' : World) : Prop := ∃ v : Int, e = .returned (.int .i64 v) ∧ Pk n v ∧ Rd w' B g (p + 1) ∧ w.grownBy w' (some g)
/-- The reader behind its step. -/
theorem Rd.step {w : World} {B g p : Nat} {A : Option Addr} {n c : Nat} (hrow : Row w g 61 [.slice A n c, .int .i64 p]) (hB : B ≤ g) (hn : n ≤ 2000)
    (hb : 0 < n → ∃ b off, A = some ⟨b, off, none⟩ ∧ b < B ∧ ∀ j, j < n → ∃ v : Nat, v ≤ 255 ∧ w.cell? ⟨b, off + j, none⟩ = some (.int .u8 v)) (x : Int) (hx : x = (p : Int) + 1) :
    Rd (w.setCell ⟨g, 1, none⟩ (.int .i64 x)) B g (p + 1) := by
  subst hx
  refine ⟨A, n, c, hrow.set 1 _, hB, hn, fun h0 => ?_⟩
  obtain ⟨b, off, rfl, hbB, hc⟩ := hb h0
  refine ⟨b, off, rfl, hbB, fun j hj => ?_⟩
  obtain ⟨v, hv, hcell⟩ := hc j hj
  exact ⟨v, hv, (World.cell?_setCell_other w _ _ _ (fun e => by injection e; omega)).trans hcell⟩
theorem Rd.drewN {w : World} {B g p : Nat} (h : Rd w B g p) (n : Nat) : Rd (w.drewN n) B g p := h

theorem pick_any (B g p : Nat) (n : Int) (hn : n ≤ 1000000) (hn0 : -1000000 ≤ n) (w : World) (h : Rd w B g p) (hp : p ≤ 1000000) :
    Calls Tryd.prog 34 #[.pointer (some ⟨g, 0, none⟩), .int .i64 n] w (PickPost B g p n w) := by
  obtain ⟨A, len, c, hrow, hB, hlen, hb⟩ := h
  have r0 := hrow.cell 0
  have r1 := hrow.cell 1
  have r2 := hrow.frozen 1
  by_cases h1 : n < 1
  · go_enter Tryd.func34, Tryd.ntmps34
    go_wp2
    go_ret
    exact ⟨0, rfl, ⟨by omega, by omega, by omega⟩, Rd.step hrow hB hlen hb _ rfl, grown_set _ _ _ _⟩
  · by_cases h2 : len = 0
    · subst h2
      go_enter Tryd.func34, Tryd.ntmps34
      go_wp2
      go_ret
      exact ⟨0, rfl, ⟨by omega, by omega, by omega⟩, Rd.step hrow hB hlen hb _ rfl, grown_set _ _ _ _⟩
    · have hb' := Lib.hid hb
      obtain ⟨b, off, rfl, hbB, hc⟩ := hb (by omega)
      have hb0 := hb'.out
      have hne : b ≠ g := by omega
      have h3 : ((len : Int) == 0) = false := by simp; omega
      by_cases hk : p < len
      · obtain ⟨v, hv, hcell⟩ := hc p hk
        have hv3 : 0 ≤ (v : Int) % n := Int.emod_nonneg _ (by omega)
        have hv4 : (v : Int) % n < n := Int.emod_lt_of_pos _ (by omega)
        have hc' : (w.setCell ⟨g, 1, none⟩ (.int .i64 ((p : Int) + 1))).cell? ⟨b, off + p, none⟩ = some (.int .u8 v) := (World.cell?_setCell_other w _ _ _ (fun e => by injection e; omega)).trans hcell
        go_enter Tryd.func34, Tryd.ntmps34
        go_wp2
        go_ret
        exact ⟨(v : Int) % n, rfl, ⟨hv3, fun _ => hv4, fun h => by omega⟩, Rd.step hrow hB hlen hb0 _ rfl, grown_set _ _ _ _⟩
      · have hlp : 0 < len := Nat.pos_of_ne_zero h2
        have hm1 : p % len < len := Nat.mod_lt _ hlp
        have hm2 : (p * 7 + 3) % len < len := Nat.mod_lt _ hlp
        obtain ⟨v1, hv1, hcell1⟩ := hc _ hm1
        obtain ⟨v2, hv2, hcell2⟩ := hc _ hm2
        have hc1 : (w.setCell ⟨g, 1, none⟩ (.int .i64 ((p : Int) + 1))).cell? ⟨b, off + p % len, none⟩ = some (.int .u8 v1) := (World.cell?_setCell_other w _ _ _ (fun e => by injection e; omega)).trans hcell1
        have hc2 : (w.setCell ⟨g, 1, none⟩ (.int .i64 ((p : Int) + 1))).cell? ⟨b, off + (p * 7 + 3) % len, none⟩ = some (.int .u8 v2) := (World.cell?_setCell_other w _ _ _ (fun e => by injection e; omega)).trans hcell2
        have hl : 1 ≤ (len : Int) := by omega
        have hqn : p / len ≤ p := Nat.div_le_self _ _
        obtain ⟨y, hy⟩ : ∃ y : Nat, bits .xor .i64 ((v1 : Int) * 131 + (v2 : Int) * 1117 + (p : Int) * 29 + (p : Int) / (len : Int) * 53) (((v1 : Int) * 131 + (v2 : Int) * 1117 + (p : Int) * 29 + (p : Int) / (len : Int) * 53) / 64) = (y : Int) := by
          have e : (v1 : Int) * 131 + (v2 : Int) * 1117 + (p : Int) * 29 + (p : Int) / (len : Int) * 53 = ((v1 * 131 + v2 * 1117 + p * 29 + p / len * 53 : Nat) : Int) := by
            rw [← Int.natCast_ediv]; omega
          rw [e]
          have := i64_xor_nat (v1 * 131 + v2 * 1117 + p * 29 + p / len * 53) ((v1 * 131 + v2 * 1117 + p * 29 + p / len * 53) / 64) (by omega) (by omega)
          exact ⟨_, (by rw [Int.natCast_ediv] at this; exact this)⟩
        have hv3 : 0 ≤ (y : Int) % n := Int.emod_nonneg _ (by omega)
        have hv4 : (y : Int) % n < n := Int.emod_lt_of_pos _ (by omega)
        have hq0 : 0 ≤ (p : Int) / (len : Int) := Int.ediv_nonneg (by omega) (by omega)
        have hq1 : (p : Int) / (len : Int) ≤ (p : Int) := Int.ediv_le_self _ (by omega)
        have hm3 : (p : Int) % (len : Int) < (len : Int) := Int.emod_lt_of_pos _ (by omega)
        have hm4 : 0 ≤ (p : Int) % (len : Int) := Int.emod_nonneg _ (by omega)
        have hm5 : ((p : Int) * 7 + 3) % (len : Int) < (len : Int) := Int.emod_lt_of_pos _ (by omega)
        have hm6 : 0 ≤ ((p : Int) * 7 + 3) % (len : Int) := Int.emod_nonneg _ (by omega)
        go_enter Tryd.func34, Tryd.ntmps34
        go_wp2
        go_quiet (fail)
        go_wp2
        go_ret
        exact ⟨(y : Int) % n, rfl, ⟨hv3, fun _ => hv4, fun h => by omega⟩, (Rd.step hrow hB hlen hb0 _ rfl).drewN _, grown_drewN (grown_set _ _ _ _) _⟩

/-- The bytes of an argument. -/
def Byt (w : World) (B : Nat) (A : Option Addr) (n : Nat) : Prop :=
  0 < n → ∃ b off, A = some ⟨b, off, none⟩ ∧ b < B ∧ ∀ j, j < n → ∃ v : Nat, v ≤ 255 ∧ w.cell? ⟨b, off + j, none⟩ = some (.int .u8 v)
def OpenPost (w : World) (e : Ending) (w' : World) : Prop := ∃ g, e = .returned (.pointer (some ⟨g, 0, none⟩)) ∧ Rd w' w.heap.size g 0 ∧ Below w.heap.size w w'
theorem open_any (A : Option Addr) (n c : Nat) (hnc : n ≤ c) (hc : c ≤ maxLen) (w : World) (h : Byt w w.heap.size A n) :
    Calls Tryd.prog 33 #[.slice A n c] w (OpenPost w) := by
  unfold maxLen at hc
  have hkeep : ∀ (o : Obj) (m : Nat), m ≤ n → Byt (w.alloc o) w.heap.size A m := fun o m hm h0 => by
    obtain ⟨b, off, rfl, hb, hcc⟩ := h (by omega)
    exact ⟨b, off, rfl, hb, fun j hj => by
      obtain ⟨v, hv, hcell⟩ := hcc j (by omega)
      exact ⟨v, hv, (World.cell?_alloc_lt w o _ hb).trans hcell⟩⟩
  replace hkeep := Lib.hid hkeep
  by_cases h1 : 2000 < n
  · have h2 : 2000 ≤ c := by omega
    go_enter Tryd.func33, Tryd.ntmps33
    go_wp2
    go_ret
    exact ⟨w.heap.size, rfl, ⟨A, 2000, c, Row.newS _ _ _ rfl rfl, Nat.le_refl _, by omega, hkeep.out _ 2000 (by omega)⟩, (Below.refl _ _).alloc (Nat.le_refl _) _⟩
  · go_enter Tryd.func33, Tryd.ntmps33
    go_wp2
    go_ret
    exact ⟨w.heap.size, rfl, ⟨A, n, c, Row.newS _ _ _ rfl rfl, Nat.le_refl _, by omega, hkeep.out _ n (by omega)⟩, (Below.refl _ _).alloc (Nat.le_refl _) _⟩

def OfPost (ss : List ByteArray) (B g p : Nat) (w : World) (e : Ending) (w' : World) : Prop := ∃ s, s ∈ ss ∧ e = .returned (.string s) ∧ Rd w' B g (p + 1) ∧ w.grownBy w' (some g)
theorem of_any (B g p h k : Nat) (ss : List ByteArray) (hk : ss.length = k) (hk0 : 1 ≤ k) (hk1 : k ≤ 1000) (w : World) (hr : Rd w B g p) (hp : p ≤ 1000000) (hrow : Row w h 9 (ss.map Value.string)) (hne : h ≠ g) :
    Calls Tryd.prog 61 #[.pointer (some ⟨g, 0, none⟩), .slice (some ⟨h, 0, none⟩) k k] w (OfPost ss B g p w) := by
  have HP := Lib.hid (fun n a b w => pick_any B g p n a b w)
  go_enter Tryd.func61, Tryd.ntmps61
  go_wp2_with fail
  refine (HP.out _ (by omega) (by omega) _ hr hp).mono ?_
  rintro e w1 ⟨v, rfl, ⟨hv0, hv1, _⟩, hr1, hg1⟩
  have hv2 := hv1 (by omega)
  obtain ⟨i, rfl⟩ := Int.eq_ofNat_of_zero_le hv0
  have hi : i < ss.length := by omega
  have hrow1 := hrow.grown hg1 (by simp [hne])
  have hcell := hrow1.cellI (i := i) (v := .string ss[i]) (by simp [List.getElem?_eq_getElem hi])
  have Hk := Lib.hid hk
  clear hk hv1
  go_wp2_with fail
  go_ret
  exact ⟨ss[i], List.getElem_mem hi, rfl, hr1, hg1⟩
end Go.Proofs.YtpldkfbglfcidaaDoor
