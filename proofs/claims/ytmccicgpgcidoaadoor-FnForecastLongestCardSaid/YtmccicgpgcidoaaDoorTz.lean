/- bits.TrailingZeros32 and forecast.run, walked, where the table reads as it does. -/
import Derived.Test.YtmccicgpgcidoaaDoorRun
import Derived.Test.YtmccicgpgcidoaaDoorFcI
namespace Go.Proofs.YtmccicgpgcidoaaDoor
set_option linter.unusedVariables false
set_option linter.unusedSimpArgs false
open Go.RowKit
/-- The table of math/bits, as its initialiser lays it. -/
def Tab (w : World) : Prop := 0 < w.heap.size ∧ ∀ i, i < 32 → w.cell? ⟨0, i, none⟩ = some (.int .u8 ((Lib.deBruijn32tab.getD i 0 : Nat) : Int))
theorem Tab.below {w w' : World} {B : Nat} (h : Tab w) (hb : Below B w w') (hB : 0 < B) : Tab w' :=
  ⟨Nat.lt_of_lt_of_le h.1 hb.size, fun i hi => (hb.cell (p := ⟨0, i, none⟩) hB).trans (h.2 i hi)⟩
theorem neg_u32 (x : Nat) (h0 : x ≠ 0) (h : x < 4294967296) : (-(x : Int)) % 4294967296 = ((4294967296 - x : Nat) : Int) := by omega
set_option maxRecDepth 100000 in
theorem tz32 (x r : Nat) (h0 : x ≠ 0) (hx : x < 4294967296) (hr : r < 32) (hl : x &&& (4294967296 - x) = 2 ^ r) (w : World) (hT : Tab w) :
    Calls Tryd.prog 24 #[.int .u32 x] w fun e w' => e = .returned (.int .i64 r) ∧ w = w' := by
  obtain ⟨hi, hv⟩ := Lib.deBruijn32_at r hr
  have hc := hT.2 _ hi
  rw [hv] at hc
  have e1 := neg_u32 x h0 hx
  have e2 : bits .and .u32 (x : Int) ((4294967296 - x : Nat) : Int) = ((2 ^ r : Nat) : Int) := by rw [u32_and_nat x _ hx (by omega), hl]
  have hxb : ((x : Int) == 0) = false := bF (by omega)
  obtain ⟨p, hp⟩ : ∃ p, p = 2 ^ r := ⟨_, rfl⟩
  have hp32 : p ≤ 2147483648 := by rw [hp]; exact Nat.le_trans (Nat.pow_le_pow_right (by omega) (by omega : r ≤ 31)) (by decide)
  rw [← hp] at hc hi e2
  clear hp hl hv hT
  go_enter Tryd.func24, Tryd.ntmps24
  go_wp2_with fail
  go_ret
  exact ⟨rfl, rfl⟩
theorem xor_max (y : Nat) (hy : y < 4294967296) : bits .xor .u32 IntKind.u32.max (y : Int) = ((4294967295 - y : Nat) : Int) := by
  show IntKind.u32.wrap ((BitVec.ofInt 32 IntKind.u32.max ^^^ BitVec.ofInt 32 (y : Int)).toNat : Int) = _
  have e : BitVec.ofInt 32 IntKind.u32.max = BitVec.allOnes 32 := by decide
  rw [e, BitVec.allOnes_xor, BitVec.toNat_not, ofInt_u32 y hy, IntKind.wrap_u32]
  omega
theorem mask_shr (l : List UInt8) (d : Nat) : (maskL l : Int) / (2 : Int) ^ d = ((maskL (l.drop d) : Nat) : Int) := by
  rw [← maskL_drop]
  norm_cast
set_option maxRecDepth 100000 in
theorem run_any (l : List UInt8) (hl : l.length ≤ 30) (D d : Nat) (hd : d ≤ 30) (w : World) (hT : Tab w) :
    Calls Tryd.prog 16 #[.agg #[.int .u32 (maskL l), .int .i64 D], .int .i64 d] w fun e w' => e = .returned (.int .i64 (runAt l d)) ∧ Below w.heap.size w w' := by
  have hsh := mask_shr l d
  obtain ⟨hr, hlow, hne⟩ := low_bit (l.drop d) (by rw [List.length_drop]; omega)
  have hlt := maskL_lt l
  have hp : 2 ^ l.length ≤ 2 ^ 30 := Nat.pow_le_pow_right (by omega) hl
  have hlt2 := maskL_lt (l.drop d)
  have hp2 : 2 ^ (l.drop d).length ≤ 2 ^ 30 := Nat.pow_le_pow_right (by omega) (by rw [List.length_drop]; omega)
  obtain ⟨m, hm⟩ : ∃ m, m = maskL l := ⟨_, rfl⟩
  obtain ⟨y, hy⟩ : ∃ y, y = maskL (l.drop d) := ⟨_, rfl⟩
  rw [← hm] at hsh hlt ⊢
  rw [← hy] at hsh hlow hne hlt2
  have hm30 : m < 1073741824 := by omega
  have hy30 : y < 1073741824 := by omega
  have HT := Lib.hid (fun w hT => tz32 (4294967295 - y) (run0 (l.drop d)) hne (by omega) hr hlow w hT)
  have hR : Hid (run0 (l.drop d) = runAt l d) := rfl
  rw [hR.out] at HT
  clear hR hlow hr hne hm hy hp hlt hp2 hlt2
  go_enter Tryd.func16, Tryd.ntmps16
  go_wp2_with fail
  rw [xor_max y (by omega)]
  refine (HT.out _ (hT.below ((Below.refl w.heap.size w).alloc (Nat.le_refl _) _) hT.1)).mono ?_
  rintro e w1 ⟨rfl, rfl⟩
  go_wp2_with fail
  go_ret
  exact ⟨rfl, (Below.refl w.heap.size w).alloc (Nat.le_refl _) _⟩
end Go.Proofs.YtmccicgpgcidoaaDoor
