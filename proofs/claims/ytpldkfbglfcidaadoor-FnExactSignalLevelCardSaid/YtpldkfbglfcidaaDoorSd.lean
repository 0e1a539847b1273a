/- The drift of a signal: plain; the reference's l8Drift and the program's drift, walked. -/
import Derived.Test.YtpldkfbglfcidaaDoorSvI
import Derived.Test.YtpldkfbglfcidaaDoorRes
import Derived.Test.YtpldkfbglfcidaaDoorAppO
import Derived.Laws.IdiomStrings
namespace Go.Proofs.YtpldkfbglfcidaaDoor
set_option linter.unusedVariables false
set_option linter.unusedSimpArgs false
open Go.RowKit
/-- What a pulse adds to the drift. -/
def dstep (c : UInt8) : Int := if (c.toNat : Int) = 43 then 1 else if (c.toNat : Int) = 45 then -1 else 0
def driftTo (l : List UInt8) : Nat → Int
  | 0 => 0
  | k + 1 => driftTo l k + dstep (l.getD k 0)
theorem dstep_bd (c : UInt8) : -1 ≤ dstep c ∧ dstep c ≤ 1 := by
  unfold dstep
  split
  · omega
  · split <;> omega
theorem driftTo_bd (l : List UInt8) (k : Nat) : -(k : Int) ≤ driftTo l k ∧ driftTo l k ≤ k := by
  induction k with
  | zero => simp [driftTo]
  | succ k ih => rw [driftTo]; have := dstep_bd (l.getD k 0); omega
/-- The drifts behind the first n pulses. -/
def drifts (l : List UInt8) (n : Nat) : List Int := (List.range n).map fun k => driftTo l (k + 1)
theorem drifts_succ (l : List UInt8) (k : Nat) : drifts l (k + 1) = drifts l k ++ [driftTo l (k + 1)] := by simp [drifts, List.range_succ]
theorem drifts_length (l : List UInt8) (k : Nat) : (drifts l k).length = k := by simp [drifts]
theorem driftTo_at {s : ByteArray} {k : Nat} (h : k < s.size) : driftTo s.data.toList (k + 1) = driftTo s.data.toList k + dstep s[k] := by
  rw [driftTo, List.getD, at_list s k h]; rfl
set_option maxRecDepth 100000 in
theorem specDr (s : ByteArray) (hs : s.size ≤ 80) (w : World) :
    Calls Tryd.prog 41 #[.string s] w (Sl1Post (fun xs => xs = 0 :: drifts s.data.toList s.size) w) := by
  have HT := Lib.hid (fun k (h : k < s.size) => driftTo_at h)
  have HB := Lib.hid (fun k => driftTo_bd s.data.toList k)
  have HS := Lib.hid (fun k => drifts_succ s.data.toList k)
  have HL := Lib.hid (fun k => drifts_length s.data.toList k)
  go_enter Tryd.func41, Tryd.ntmps41
  go_wp2_with fail
  go_loopw [3, 4, 5] (fun v a i wr => ∃ (k : Nat) (x : Int) (A : Option Addr) (c : Nat), k ≤ s.size ∧ i = .int .i64 k ∧ a = .int .i64 x ∧ v = .slice A (k + 1) c ∧ Hid (x = driftTo s.data.toList k) ∧ Own wr w.heap.size (.slice A (k + 1) c) (0 :: drifts s.data.toList k) ∧ Below w.heap.size w wr) (fun _ _ i _ => s.size - (intOf i).toNat)
  case atStart => exact ⟨0, 0, _, _, by omega, rfl, rfl, rfl, rfl, Row.own (xs := [0]) (Row.newS _ _ _ rfl rfl) (Nat.le_refl _) (by unfold maxLen; simp), (Below.refl _ _).alloc (Nat.le_refl _) _⟩
  case round =>
    obtain ⟨k, x, A, c, hk, rfl, rfl, rfl, hx, hown, hbel⟩ := hrel
    have hsz := hbel.size
    have hlk : Hid ((0 :: drifts s.data.toList k).length = k + 1) := by show _ = _; rw [List.length_cons, HL.out]
    have hbx := HB.out k
    rw [← hx.out] at hbx
    by_cases hlt : k < s.size
    · have ht := HT.out k hlt
      have hnx : Hid ((0 :: drifts s.data.toList k) ++ [x + dstep s[k]] = 0 :: drifts s.data.toList (k + 1)) := by show _ = _; rw [List.cons_append, HS.out, ht, hx.out]
      rw [← hx.out] at ht
      have hnt : Hid (x + dstep s[k] = driftTo s.data.toList (k + 1)) := ht.symm
      clear ht
      by_cases h1 : (s[k].toNat : Int) = 43
      · have hd : dstep s[k] = 1 := by unfold dstep; rw [if_pos h1]
        rw [hd] at hnx hnt
        have t1 := bT h1
        have n1 := nF h1
        clear h1 hd
        go_wp2_with (at_builtin; refine app1 _ rfl _ _ rfl w.heap.size _ _ rfl (Own.alloc hown (Obj.cells #[.int .i64 (x + 1)] 3)) (k + 1) hlk.out ⟨wr.heap.size, 0, none⟩ (x + 1) rfl (alloc1_cell rfl) (by omega) (by simp; omega) ?_; intro A5 c5 w5 hown5 hgr5)
        rw [hnx.out] at hown5
        have hb5 : Below w.heap.size w w5 := Own.grownBelow (hown.alloc _) hgr5 (hbel.alloc hsz _) (Nat.le_refl _) (by simp; omega)
        clear hgr5 hown hbel
        go_wp2_with fail
        go_roundw
        case rel => exact ⟨k + 1, x + 1, A5, c5, by omega, by go_num, by go_num, rfl, hnt.out, hown5, hb5⟩
        case measure => simp [intOf]; omega
      · have t1 := bF h1
        have n1 := nT h1
        by_cases h2 : (s[k].toNat : Int) = 45
        · have hd : dstep s[k] = -1 := by unfold dstep; rw [if_neg h1, if_pos h2]
          rw [hd] at hnx hnt
          have t2 := bT h2
          have n2 := nF h2
          clear h1 h2 hd
          go_wp2_with (at_builtin; refine app1 _ rfl _ _ rfl w.heap.size _ _ rfl (Own.alloc hown (Obj.cells #[.int .i64 (x - 1)] 3)) (k + 1) hlk.out ⟨wr.heap.size, 0, none⟩ (x - 1) rfl (alloc1_cell rfl) (by omega) (by simp; omega) ?_; intro A5 c5 w5 hown5 hgr5)
          have e1 : x - 1 = x + -1 := by omega
          rw [e1, hnx.out] at hown5
          have hb5 : Below w.heap.size w w5 := Own.grownBelow (hown.alloc _) hgr5 (hbel.alloc hsz _) (Nat.le_refl _) (by simp; omega)
          clear hgr5 hown hbel
          go_wp2_with fail
          go_roundw
          case rel => exact ⟨k + 1, x - 1, A5, c5, by omega, by go_num, by go_num, rfl, hnt.out, hown5, hb5⟩
          case measure => simp [intOf]; omega
        · have hd : dstep s[k] = 0 := by unfold dstep; rw [if_neg h1, if_neg h2]
          rw [hd, Int.add_zero] at hnx hnt
          have t2 := bF h2
          have n2 := nT h2
          clear h1 h2 hd
          go_wp2_with (at_builtin; refine app1 _ rfl _ _ rfl w.heap.size _ _ rfl (Own.alloc hown (Obj.cells #[.int .i64 x] 3)) (k + 1) hlk.out ⟨wr.heap.size, 0, none⟩ x rfl (alloc1_cell rfl) (by omega) (by simp; omega) ?_; intro A5 c5 w5 hown5 hgr5)
          rw [hnx.out] at hown5
          have hb5 : Below w.heap.size w w5 := Own.grownBelow (hown.alloc _) hgr5 (hbel.alloc hsz _) (Nat.le_refl _) (by simp; omega)
          clear hgr5 hown hbel
          go_wp2_with fail
          go_roundw
          case rel => exact ⟨k + 1, x, A5, c5, by omega, by go_num, by go_num, rfl, hnt.out, hown5, hb5⟩
          case measure => simp [intOf]; omega
    · obtain rfl : k = s.size := by omega
      go_wp2_with fail
      go_ret
      exact Sl1Post.mk rfl hown hbel
theorem bytes_at (s : ByteArray) (cap : Nat) (w : World) (t : TypeId) (fr : Nat × Nat) (k : Nat) (hk : k < s.size) : (w.alloc (.cells (bytesRow s cap) t fr)).cell? ⟨w.heap.size, k, none⟩ = some (.int .u8 (s[k].toNat : Int)) := by
  rw [cell_of_row _ _ _ _ t fr (heap_alloc_new w _)]
  exact bytesRow_at s cap k hk
set_option maxRecDepth 100000 in
theorem implDr (s : ByteArray) (hs : s.size ≤ 80) (w : World) :
    Calls Tryd.prog 42 #[.string s] w (Sl1Post (fun xs => xs = drifts s.data.toList s.size) w) := by
  have HT := Lib.hid (fun k (h : k < s.size) => driftTo_at h)
  have HB := Lib.hid (fun k => driftTo_bd s.data.toList k)
  have HS := Lib.hid (fun k => drifts_succ s.data.toList k)
  have HL := Lib.hid (fun k => drifts_length s.data.toList k)
  have hmk := fun w => mk_cap (s.size : Int) s.size rfl (by omega) w
  have hcv := fun w => run_bytes_of_string (P := Tryd.prog) w 9 22 5 s Tryd.underlying9 Tryd.underlying22 Tryd.underlying5
  go_enter Tryd.func42, Tryd.ntmps42
  go_wp2_with fail
  have hcapx := grownCap (w.alloc (Obj.cells (madeCells #[.int .i64 0] s.size) 3)) s.size 0 5
  go_loopw [3, 4, 13] (fun v a i wr => ∃ (k : Nat) (x : Int) (A : Option Addr) (c : Nat), k ≤ s.size ∧ i = .int .i64 k ∧ a = .int .i64 x ∧ v = .slice A k c ∧ Hid (x = driftTo s.data.toList k) ∧ Own wr w.heap.size (.slice A k c) (drifts s.data.toList k) ∧ Below w.heap.size w wr ∧
    (∀ j, Value.ownBlock (.slice A k c) = some j → j ≠ w.heap.size + 1) ∧ Hid (∀ j (hj : j < s.size), wr.cell? ⟨w.heap.size + 1, j, none⟩ = some (.int .u8 (s[j].toNat : Int))) ∧ w.heap.size + 2 ≤ wr.heap.size) (fun _ _ i _ => s.size - (intOf i).toNat)
  case atStart =>
    refine ⟨0, 0, _, _, by omega, rfl, rfl, rfl, rfl, (Own.made0 w _ s.size (Nat.le_refl _) (by omega)).alloc _, (((Below.refl _ _).alloc (Nat.le_refl _) _).alloc (by simp) _).drew, ?_, fun j hj => ?_, by simp⟩
    · intro j hj
      simp [Value.ownBlock] at hj
      omega
    · have := bytes_at s (grownCap (w.alloc (Obj.cells (madeCells #[.int .i64 0] s.size) 3)) s.size 0 5) (w.alloc (Obj.cells (madeCells #[.int .i64 0] s.size) 3)) 5 ((bytesRow s (grownCap (w.alloc (Obj.cells (madeCells #[.int .i64 0] s.size) 3)) s.size 0 5)).size, (bytesRow s (grownCap (w.alloc (Obj.cells (madeCells #[.int .i64 0] s.size) 3)) s.size 0 5)).size + 1) j hj
      rwa [World.size_alloc] at this
  case round =>
    obtain ⟨k, x, A, c, hk, rfl, rfl, rfl, hx, hown, hbel, hne, hby, hsz2⟩ := hrel
    have hsz := hbel.size
    have hlk : Hid ((drifts s.data.toList k).length = k) := HL.out k
    have hbx := HB.out k
    rw [← hx.out] at hbx
    by_cases hlt : k < s.size
    · have ht := HT.out k hlt
      have hc0 := hby.out k hlt
      have hnx : Hid (drifts s.data.toList k ++ [x + dstep s[k]] = drifts s.data.toList (k + 1)) := by show _ = _; rw [HS.out, ht, hx.out]
      rw [← hx.out] at ht
      have hnt : Hid (x + dstep s[k] = driftTo s.data.toList (k + 1)) := ht.symm
      clear ht
      by_cases h1 : (s[k].toNat : Int) = 43
      · have hd : dstep s[k] = 1 := by unfold dstep; rw [if_pos h1]
        rw [hd] at hnx hnt
        have t1 := bT h1
        have n1 := nF h1
        clear h1 hd
        go_wp2_with (at_builtin; refine app1x _ rfl _ _ rfl w.heap.size _ _ _ _ rfl (Own.alloc hown (Obj.cells #[.int .i64 (x + 1)] 3)) hlk.out ⟨wr.heap.size, 0, none⟩ (x + 1) rfl (alloc1_cell rfl) (by omega) (by simp; omega) ?_; intro A5 c5 w5 hown5 hgr5 hbl5)
        rw [hnx.out] at hown5
        have hb5 : Below w.heap.size w w5 := Own.grownBelow (hown.alloc _) hgr5 (hbel.alloc hsz _) (Nat.le_refl _) (by simp; omega)
        have hne5 : ∀ j, Value.ownBlock (.slice A5 (k + 1) c5) = some j → j ≠ w.heap.size + 1 := fun j hj => by
          rcases hbl5 j hj with h | h
          · exact hne j h
          · simp at h; omega
        have hby5 : Hid (∀ j (hj : j < s.size), w5.cell? ⟨w.heap.size + 1, j, none⟩ = some (.int .u8 (s[j].toNat : Int))) := fun j hj => hgr5.cell ((World.cell?_alloc_lt wr _ _ (by show w.heap.size + 1 < _; omega)).trans (hby.out j hj)) (fun e => hne _ e.symm rfl)
        have hsz5 : w.heap.size + 2 ≤ w5.heap.size := by have := hgr5.size; simp at this; omega
        clear hgr5 hown hbel hne hby hbl5 hc0
        replace hne5 := Lib.hid hne5
        go_wp2_with fail
        go_roundw
        case rel => exact ⟨k + 1, x + 1, A5, c5, by omega, by go_num, by first | rfl | go_num, rfl, hnt.out, hown5, hb5, hne5.out, hby5, hsz5⟩
        case measure => simp [intOf]; omega
      · have t1 := bF h1
        have n1 := nT h1
        by_cases h2 : (s[k].toNat : Int) = 45
        · have hd : dstep s[k] = -1 := by unfold dstep; rw [if_neg h1, if_pos h2]
          rw [hd] at hnx hnt
          have t2 := bT h2
          have n2 := nF h2
          clear h1 h2 hd
          go_wp2_with (at_builtin; refine app1x _ rfl _ _ rfl w.heap.size _ _ _ _ rfl (Own.alloc hown (Obj.cells #[.int .i64 (x - 1)] 3)) hlk.out ⟨wr.heap.size, 0, none⟩ (x - 1) rfl (alloc1_cell rfl) (by omega) (by simp; omega) ?_; intro A5 c5 w5 hown5 hgr5 hbl5)
          have e1 : x - 1 = x + -1 := by omega
          rw [e1] at hown5
          rw [hnx.out] at hown5
          have hb5 : Below w.heap.size w w5 := Own.grownBelow (hown.alloc _) hgr5 (hbel.alloc hsz _) (Nat.le_refl _) (by simp; omega)
          have hne5 : ∀ j, Value.ownBlock (.slice A5 (k + 1) c5) = some j → j ≠ w.heap.size + 1 := fun j hj => by
            rcases hbl5 j hj with h | h
            · exact hne j h
            · simp at h; omega
          have hby5 : Hid (∀ j (hj : j < s.size), w5.cell? ⟨w.heap.size + 1, j, none⟩ = some (.int .u8 (s[j].toNat : Int))) := fun j hj => hgr5.cell ((World.cell?_alloc_lt wr _ _ (by show w.heap.size + 1 < _; omega)).trans (hby.out j hj)) (fun e => hne _ e.symm rfl)
          have hsz5 : w.heap.size + 2 ≤ w5.heap.size := by have := hgr5.size; simp at this; omega
          clear hgr5 hown hbel hne hby hbl5 hc0
          replace hne5 := Lib.hid hne5
          go_wp2_with fail
          go_roundw
          case rel => exact ⟨k + 1, x - 1, A5, c5, by omega, by go_num, by first | rfl | go_num, rfl, hnt.out, hown5, hb5, hne5.out, hby5, hsz5⟩
          case measure => simp [intOf]; omega
        · have hd : dstep s[k] = 0 := by unfold dstep; rw [if_neg h1, if_neg h2]
          rw [hd, Int.add_zero] at hnx hnt
          have t2 := bF h2
          have n2 := nT h2
          clear h1 h2 hd
          go_wp2_with (at_builtin; refine app1x _ rfl _ _ rfl w.heap.size _ _ _ _ rfl (Own.alloc hown (Obj.cells #[.int .i64 (x)] 3)) hlk.out ⟨wr.heap.size, 0, none⟩ (x) rfl (alloc1_cell rfl) (by omega) (by simp; omega) ?_; intro A5 c5 w5 hown5 hgr5 hbl5)
          rw [hnx.out] at hown5
          have hb5 : Below w.heap.size w w5 := Own.grownBelow (hown.alloc _) hgr5 (hbel.alloc hsz _) (Nat.le_refl _) (by simp; omega)
          have hne5 : ∀ j, Value.ownBlock (.slice A5 (k + 1) c5) = some j → j ≠ w.heap.size + 1 := fun j hj => by
            rcases hbl5 j hj with h | h
            · exact hne j h
            · simp at h; omega
          have hby5 : Hid (∀ j (hj : j < s.size), w5.cell? ⟨w.heap.size + 1, j, none⟩ = some (.int .u8 (s[j].toNat : Int))) := fun j hj => hgr5.cell ((World.cell?_alloc_lt wr _ _ (by show w.heap.size + 1 < _; omega)).trans (hby.out j hj)) (fun e => hne _ e.symm rfl)
          have hsz5 : w.heap.size + 2 ≤ w5.heap.size := by have := hgr5.size; simp at this; omega
          clear hgr5 hown hbel hne hby hbl5 hc0
          replace hne5 := Lib.hid hne5
          go_wp2_with fail
          go_roundw
          case rel => exact ⟨k + 1, x, A5, c5, by omega, by go_num, by first | rfl | go_num, rfl, hnt.out, hown5, hb5, hne5.out, hby5, hsz5⟩
          case measure => simp [intOf]; omega
    · obtain rfl : k = s.size := by omega
      clear hby hne
      go_wp2_with fail
      go_ret
      exact Sl1Post.mk rfl hown hbel
end Go.Proofs.YtpldkfbglfcidaaDoor
