/- The laws' helpers on slices of numbers: equal, marked, held. -/
import Derived.Test.YtglncadfmomamaaIv
namespace Go.Proofs.Ytglncadfmomamaa
set_option linter.unusedVariables false
set_option linter.unusedSimpArgs false
open Go.RowKit
theorem Own.cell {w : World} {B g n c : Nat} {xs : List Int} (h : Own w B (.slice (some ⟨g, 0, none⟩) n c) xs) {i : Nat} {x : Int} (hx : xs[i]? = some x) : w.cell? ⟨g, i, none⟩ = some (.int .i64 x) := by
  have hi : i < xs.length := (List.getElem?_eq_some_iff.1 hx).1
  obtain ⟨b, off, e, _, _, hc⟩ := h.iv (by omega)
  injection e with e
  injection e with e1 e2
  subst e1 e2
  have := hc i x hx
  rwa [Nat.zero_add] at this
theorem Own.some {w : World} {B n c : Nat} {A : Option Addr} {xs : List Int} (h : Own w B (.slice A n c) xs) (h0 : 0 < xs.length) : ∃ g, A = some ⟨g, 0, none⟩ ∧ B ≤ g ∧ g < w.heap.size := by
  rcases h.spot with rfl | h1
  · obtain ⟨b, off, e, _⟩ := h.iv h0
    cases e
  · exact h1
set_option maxRecDepth 100000 in
theorem eqIntS_same (A A' : Option Addr) (c c' lo lo' hi hi' : Nat) (xs : List Int) (hn : xs.length ≤ 1048576) (w : World) (h : Iv w lo hi A xs) (h' : Iv w lo' hi' A' xs) :
    Calls Try.prog 36 #[.slice A xs.length c, .slice A' xs.length c'] w fun e w' => e = .returned (.bool true) ∧ Below w.heap.size w w' := by
  obtain ⟨n, hnl⟩ : ∃ n, n = xs.length := ⟨_, rfl⟩
  have Hn := Lib.hid hnl
  rw [← hnl] at hn ⊢
  clear hnl
  go_enter Try.func36, Try.ntmps36
  go_wp2_with fail
  go_loopw [5] (fun i wr => ∃ k q : Nat, k ≤ n ∧ i = .int .i64 k ∧ wr = w.drewN q) (fun i _ => n - (intOf i).toNat)
  case atStart => exact ⟨0, 0, by omega, rfl, rfl⟩
  case round =>
    obtain ⟨k, q, hk, rfl, rfl⟩ := hrel
    by_cases hlt : k < n
    · obtain ⟨b, off, rfl, _, hb, hc⟩ := h (by rw [← Hn.out]; omega)
      obtain ⟨b', off', rfl, _, hb', hc'⟩ := h' (by rw [← Hn.out]; omega)
      obtain ⟨x, hx⟩ : ∃ x, xs[k]? = some x := ⟨xs[k]'(by rw [← Hn.out]; exact hlt), List.getElem?_eq_getElem _⟩
      have d1 := hc k x hx
      have d2 := hc' k x hx
      clear hc hc' hx
      go_wp2_with fail
      go_quiet (fail)
      go_wp2_with fail
      go_roundw
      case rel => exact ⟨k + 1, _, by omega, by go_num, by first | rfl | exact World.drewN_drewN _ _ _ | trivial⟩
      case measure => simp [intOf]; omega
    · obtain rfl : k = n := by omega
      go_wp2_with fail
      go_ret
      exact ⟨rfl, below_drewN (Below.refl _ _) _⟩
def MarkPost (K : Int) (n B : Nat) (A : Option Addr) (c : Nat) (w : World) (e : Ending) (w' : World) : Prop :=
  ∃ ys : List Int, e = .returned (.int .i64 (K + n)) ∧ ys.length = n ∧ (∀ j, j < n → ys[j]? = some (K + j)) ∧ Own w' B (.slice A n c) ys ∧ w.grownBy w' (Value.ownBlock (.slice A n c))
theorem markIntS_any (A : Option Addr) (n c B : Nat) (xs : List Int) (hl : xs.length = n) (hn : n ≤ 1048576) (K : Int) (hK0 : 0 ≤ K) (hK : K ≤ 1000000000000) (w : World) (h : Own w B (.slice A n c) xs) :
    Calls Try.prog 41 #[.slice A n c, .int .i64 K] w (MarkPost K n B A c w) := by
  by_cases h0 : n = 0
  · subst h0
    have H := Lib.hid h
    have Hl := Lib.hid hl
    clear h hl
    go_enter Try.func41, Try.ntmps41
    go_wp2_with fail
    go_loop [1, 5] (fun k i => k = .int .i64 K ∧ i = .int .i64 0) (fun _ _ => 0)
    case atStart => exact ⟨rfl, rfl⟩
    case round =>
      obtain ⟨rfl, rfl⟩ := hrel
      go_wp2_with fail
      go_ret
      exact ⟨xs, ret_int (by simp), Hl.out, fun j hj => absurd hj (by omega), H.out, grown_refl _ _⟩
  · obtain ⟨g, rfl, hg, hgl⟩ := h.some (by omega)
    have H := Lib.hid h
    have Hl := Lib.hid hl
    clear h hl
    go_enter Try.func41, Try.ntmps41
    go_wp2_with fail
    go_loopw [1, 5] (fun kv i wr => ∃ (k : Nat) (ys : List Int), k ≤ n ∧ i = .int .i64 k ∧ kv = .int .i64 (K + k) ∧ Hid (ys.length = n ∧ ∀ j, j < k → ys[j]? = some (K + j)) ∧ Own wr B (.slice (some ⟨g, 0, none⟩) n c) ys ∧ w.grownBy wr (some g)) (fun _ i _ => n - (intOf i).toNat)
    case atStart => exact ⟨0, xs, by omega, rfl, by simp, ⟨Hl.out, fun j hj => absurd hj (by omega)⟩, H.out, grown_refl _ _⟩
    case round =>
      obtain ⟨k, ys, hk, rfl, rfl, hys, hown, hgr⟩ := hrel
      by_cases hlt : k < n
      · obtain ⟨y, hy⟩ : ∃ y, ys[k]? = some y := ⟨ys[k]'(by rw [hys.out.1]; exact hlt), List.getElem?_eq_getElem _⟩
        have e1 := hown.cell hy
        have f1 := hown.frozen k
        clear hy
        go_wp2_with fail
        go_roundw
        case rel => exact ⟨k + 1, ys.set k (K + k), by omega, by go_num, by go_num, ⟨by rw [List.length_set]; exact hys.out.1, fun j hj => by
          rcases (by omega : j < k ∨ j = k) with h | rfl
          · rw [List.getElem?_set_ne (by omega)]; exact hys.out.2 j h
          · rw [List.getElem?_set_self (by rw [hys.out.1]; exact hlt)]⟩, hown.stored k _ (by rw [hys.out.1]; exact hlt), grown_trans hgr (grown_set _ _ _ _)⟩
        case measure => simp [intOf]; omega
      · obtain rfl : k = n := by omega
        go_wp2_with fail
        go_ret
        exact ⟨ys, rfl, hys.out.1, hys.out.2, hown, hgr⟩
theorem heldIntS_any (A : Option Addr) (c lo hi : Nat) (ys : List Int) (hn : ys.length ≤ 1048576) (K : Int) (hK0 : 0 ≤ K) (hK : K ≤ 1000000000000) (hy : ∀ j, j < ys.length → ys[j]? = some (K + j)) (w : World) (h : Iv w lo hi A ys) :
    Calls Try.prog 42 #[.slice A ys.length c, .int .i64 K] w fun e w' => e = .returned (.int .i64 (K + ys.length)) ∧ w = w' := by
  obtain ⟨n, hnl⟩ : ∃ n, n = ys.length := ⟨_, rfl⟩
  have Hn := Lib.hid hnl
  have Hy := Lib.hid hy
  rw [← hnl] at hn ⊢
  clear hnl hy
  go_enter Try.func42, Try.ntmps42
  go_wp2_with fail
  go_loop [1, 5] (fun kv i => ∃ k : Nat, k ≤ n ∧ i = .int .i64 k ∧ kv = .int .i64 (K + k)) (fun _ i => n - (intOf i).toNat)
  case atStart => exact ⟨0, by omega, rfl, by simp⟩
  case round =>
    obtain ⟨k, hk, rfl, rfl⟩ := hrel
    by_cases hlt : k < n
    · obtain ⟨b, off, rfl, _, hb, hc⟩ := h (by rw [← Hn.out]; omega)
      have d1 := hc k _ (Hy.out k (by rw [← Hn.out]; exact hlt))
      clear hc
      go_wp2_with fail
      go_round
      case rel => exact ⟨k + 1, by omega, by go_num, by go_num⟩
      case measure => simp [intOf]; omega
    · obtain rfl : k = n := by omega
      go_wp2_with fail
      go_ret
      exact ⟨rfl, rfl⟩
/-- A slice of int that came in. -/
def ArgI (w : World) (a : Option Addr) (len cap : Nat) (zs : List Int) : Prop :=
  (a = none ∧ len = 0 ∧ cap = 0 ∧ zs = []) ∨
  ∃ x, a = some x ∧ len ≤ cap ∧ cap ≤ maxLen ∧ zs.length = cap ∧ (∀ i, i < zs.length → w.cell? (x.add i) = some (.int .i64 (zs.getD i 0))) ∧ ∀ n ∈ zs, (Lit.int .i64 n).wf = true
theorem ArgI.iv {w : World} {a : Option Addr} {len cap : Nat} {zs : List Int} (h : ArgI w a len cap zs) : ∃ xs : List Int, xs.length = len ∧ len ≤ maxLen ∧ (∀ x ∈ xs, (Lit.int .i64 x).wf = true) ∧ Iv w 0 w.heap.size a xs := by
  rcases h with ⟨rfl, rfl, rfl, rfl⟩ | ⟨⟨b, off, spot⟩, rfl, hl, hm, hz, hc, hw⟩
  · exact ⟨[], rfl, by unfold maxLen; omega, (fun x hx => by cases hx), fun h0 => absurd h0 (by simp)⟩
  · refine ⟨zs.take len, by simp; omega, by omega, fun x hx => hw x (List.mem_of_mem_take hx), fun h0 => ?_⟩
    have h0' : 0 < len := by simp at h0; omega
    have hc0 := hc 0 (by omega)
    have hspot : spot = none := by simpa [Addr.add] using World.cell?_spot hc0
    subst hspot
    refine ⟨b, off, rfl, Nat.zero_le _, by simpa [Addr.add] using block_lt_of_cell hc0, fun i x hx => ?_⟩
    rw [List.getElem?_take] at hx
    by_cases hi : i < len
    · rw [if_pos hi] at hx
      have hiz : i < zs.length := (List.getElem?_eq_some_iff.1 hx).1
      have := hc i hiz
      rw [List.getD_eq_getElem?_getD, hx] at this
      have e : (⟨b, off, none⟩ : Addr).add i = ⟨b, off + i, none⟩ := by
        unfold Addr.add; split
        · rename_i h; subst h; rfl
        · rfl
      rw [e] at this; exact this
    · rw [if_neg hi] at hx; cases hx
end Go.Proofs.Ytglncadfmomamaa
