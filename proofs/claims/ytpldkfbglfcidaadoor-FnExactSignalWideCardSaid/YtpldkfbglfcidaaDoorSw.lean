/- SignalWide of the reference and of the program, walked. -/
import Derived.Test.YtpldkfbglfcidaaDoorSd2
import Derived.Test.YtpldkfbglfcidaaDoorShelf113
namespace Go.Proofs.YtpldkfbglfcidaaDoor
set_option linter.unusedVariables false
set_option linter.unusedSimpArgs false
open Go.RowKit Go.Shelf
/-- The greatest and the least of a list and 0. -/
def hiOf (l : List Int) : Int := l.foldl max 0
def loOf (l : List Int) : Int := l.foldl min 0
theorem foldl_max (l : List Int) (a : Int) : l.foldl max a = max a (l.foldl max a) ∧ ∀ b, l.foldl max (max a b) = max b (l.foldl max a) := by
  induction l generalizing a with
  | nil => simp; intro b; omega
  | cons x l ih =>
    simp only [List.foldl_cons]
    refine ⟨?_, fun b => ?_⟩
    · have h1 := (ih (max a x)).1
      omega
    · have : max (max a b) x = max (max a x) b := by omega
      rw [this, (ih (max a x)).2]
theorem foldl_min (l : List Int) (a : Int) : l.foldl min a = min a (l.foldl min a) ∧ ∀ b, l.foldl min (min a b) = min b (l.foldl min a) := by
  induction l generalizing a with
  | nil => simp; intro b; omega
  | cons x l ih =>
    simp only [List.foldl_cons]
    refine ⟨?_, fun b => ?_⟩
    · have h1 := (ih (min a x)).1
      omega
    · have : min (min a b) x = min (min a x) b := by omega
      rw [this, (ih (min a x)).2]
theorem maxOf_snoc (D : List Int) : Lib.maxOf (D ++ [0]) = hiOf D := by
  unfold Lib.maxOf hiOf
  cases D with
  | nil => simp
  | cons x D =>
    simp only [List.cons_append, List.headD_cons, List.foldl_cons, List.foldl_append, List.foldl_nil, Int.max_self]
    have := (foldl_max D x).2 0
    rw [Int.max_comm 0 x, this, Int.max_comm]
theorem minOf_snoc (D : List Int) : Lib.minOf (D ++ [0]) = loOf D := by
  unfold Lib.minOf loOf
  cases D with
  | nil => simp
  | cons x D =>
    simp only [List.cons_append, List.headD_cons, List.foldl_cons, List.foldl_append, List.foldl_nil, Int.min_self]
    have := (foldl_min D x).2 0
    rw [Int.min_comm 0 x, this, Int.min_comm]
theorem hiOf_bd {D : List Int} {m : Int} (h0 : 0 ≤ m) (h : ∀ x ∈ D, -m ≤ x ∧ x ≤ m) : 0 ≤ hiOf D ∧ hiOf D ≤ m ∧ -m ≤ loOf D ∧ loOf D ≤ 0 := by
  have h1 : ∀ (D : List Int) (a : Int), (∀ x ∈ D, -m ≤ x ∧ x ≤ m) → a ≤ m → a ≤ D.foldl max a ∧ D.foldl max a ≤ m := fun D => by
    induction D with
    | nil => intro a _ ha; simp; exact ha
    | cons x D ih =>
      intro a hD ha
      have hx := hD x (by simp)
      have := ih (max a x) (fun y hy => hD y (by simp [hy])) (by omega)
      simp only [List.foldl_cons]; omega
  have h2 : ∀ (D : List Int) (a : Int), (∀ x ∈ D, -m ≤ x ∧ x ≤ m) → -m ≤ a → D.foldl min a ≤ a ∧ -m ≤ D.foldl min a := fun D => by
    induction D with
    | nil => intro a _ ha; simp; exact ha
    | cons x D ih =>
      intro a hD ha
      have hx := hD x (by simp)
      have := ih (min a x) (fun y hy => hD y (by simp [hy])) (by omega)
      simp only [List.foldl_cons]; omega
  have a1 := h1 D 0 h h0
  have a2 := h2 D 0 h (by omega)
  unfold hiOf loOf
  omega
theorem drifts_bd (l : List UInt8) (n : Nat) : ∀ x ∈ drifts l n, -(n : Int) ≤ x ∧ x ≤ n := fun x hx => by
  unfold drifts at hx
  obtain ⟨k, hk, rfl⟩ := List.mem_map.1 hx
  have := driftTo_bd l (k + 1)
  have := List.mem_range.1 hk
  omega
def wideV (l : List UInt8) : Int := if sgValid l = true then hiOf (drifts l l.length) - loOf (drifts l l.length) else -1
theorem wideV_no {l : List UInt8} (h : sgValid l = false) : wideV l = -1 := by rw [wideV, h]; rfl
theorem wideV_yes {s : ByteArray} (h : sgValid s.data.toList = true) : wideV s.data.toList = hiOf (drifts s.data.toList s.size) - loOf (drifts s.data.toList s.size) := by
  have hlen : s.data.toList.length = s.size := by simp
  rw [wideV, if_pos h, hlen]
theorem hi_take {L : List Int} {k : Nat} {x : Int} (h : L[k]? = some x) : hiOf (L.take (k + 1)) = max (hiOf (L.take k)) x ∧ loOf (L.take (k + 1)) = min (loOf (L.take k)) x := by
  unfold hiOf loOf
  rw [List.take_add_one, h]
  simp [List.foldl_append]
set_option maxRecDepth 100000 in
theorem specSw (s : ByteArray) (hs : s.size ≤ maxLen) (w : World) :
    Calls Tryd.prog 27 #[.string s] w fun e w' => ∃ r, e = .returned (.int .i64 r) ∧ r = wideV s.data.toList ∧ Below w.heap.size w w' := by
  have H := Lib.hid (specSv s hs)
  cases hv : sgValid s.data.toList with
  | false =>
    rw [wideV_no hv]
    rw [hv] at H
    clear hv
    go_enter Tryd.func27, Tryd.ntmps27
    go_wp2_with fail
    refine (H.out _).mono ?_
    rintro e w1 ⟨rfl, rfl⟩
    go_wp2_with fail
    go_ret
    exact ⟨_, rfl, rfl, Below.refl _ _⟩
  | true =>
    rw [wideV_yes hv]
    have HD := Lib.hid (specDr s (sgValid_80 hv))
    have h80 := sgValid_80 hv
    have HB := Lib.hid (drifts_bd s.data.toList s.size)
    have HL := Lib.hid (drifts_length s.data.toList s.size)
    rw [hv] at H
    obtain ⟨D, hD⟩ : ∃ D, D = drifts s.data.toList s.size := ⟨_, rfl⟩
    rw [← hD] at HD HB HL ⊢
    obtain ⟨n, hn⟩ : ∃ n, n = s.size := ⟨_, rfl⟩
    rw [← hn] at h80 HB HL
    have h0hi : Hid (hiOf (0 :: D) = hiOf D ∧ loOf (0 :: D) = loOf D) := ⟨rfl, rfl⟩
    clear hv hn hD
    go_enter Tryd.func27, Tryd.ntmps27
    go_wp2_with fail
    refine (H.out _).mono ?_
    rintro e w1 ⟨rfl, rfl⟩
    go_wp2_with fail
    refine (HD.out _).mono ?_
    rintro e w2 ⟨A, c, xs, rfl, hxs, hO, hb2⟩
    have HX := Lib.hid hxs
    have hxl : xs.length = n + 1 := by rw [hxs, List.length_cons, HL.out]
    have hbd : Hid (∀ x ∈ xs, -(n : Int) ≤ x ∧ x ≤ n) := fun x hx => by
      rw [HX.out] at hx
      rcases List.mem_cons.1 hx with rfl | h
      · omega
      · exact HB.out x h
    rw [hxl] at hO ⊢
    have hXL := Lib.hid hxl
    have hOi := hO.iv
    clear hxs hxl hO
    go_wp2_with fail
    go_loopw [4, 5, 6] (fun lo hi i wr => ∃ (k : Nat) (a b : Int), k ≤ n + 1 ∧ i = .int .i64 k ∧ lo = .int .i64 a ∧ hi = .int .i64 b ∧ Hid (a = loOf (xs.take k) ∧ b = hiOf (xs.take k)) ∧ wr = w2) (fun _ _ i _ => n + 1 - (intOf i).toNat)
    case atStart => exact ⟨0, 0, 0, by omega, rfl, rfl, rfl, ⟨rfl, rfl⟩, rfl⟩
    case round =>
      obtain ⟨k, a, b, hk, rfl, rfl, rfl, hab, rfl⟩ := hrel
      by_cases hlt : k < n + 1
      · obtain ⟨bb, off, rfl, _, hbb, hc⟩ := hOi (by rw [hXL.out]; omega)
        obtain ⟨x, hx⟩ : ∃ x, xs[k]? = some x := ⟨xs[k]'(by rw [hXL.out]; exact hlt), List.getElem?_eq_getElem _⟩
        have d1 := hc k x hx
        have hst := Lib.hid (hi_take hx)
        clear hc hx
        go_wp2_with fail
        go_roundw
        case rel => exact ⟨k + 1, min a x, max b x, by omega, by go_num, rfl, rfl, ⟨by rw [hst.out.2, hab.out.1], by rw [hst.out.1, hab.out.2]⟩, by first | rfl | trivial⟩
        case measure => simp [intOf]; omega
      · obtain rfl : k = n + 1 := by omega
        have h1 := hab.out
        rw [List.take_of_length_le (by rw [hXL.out]; exact Nat.le_refl _)] at h1
        have hb1 := hiOf_bd (m := n) (by omega) hbd.out
        rw [← h1.1, ← h1.2] at hb1
        rw [HX.out, h0hi.out.1, h0hi.out.2] at h1
        replace h1 := Lib.hid h1
        go_wp2_with fail
        go_ret
        exact ⟨_, rfl, by rw [h1.out.1, h1.out.2], hb2⟩
set_option maxRecDepth 100000 in
theorem implSw (s : ByteArray) (hs : s.size ≤ maxLen) (w : World) :
    Calls Tryd.prog 28 #[.string s] w fun e w' => ∃ r, e = .returned (.int .i64 r) ∧ r = wideV s.data.toList ∧ Below w.heap.size w w' := by
  have H := Lib.hid (implSv s hs)
  cases hv : sgValid s.data.toList with
  | false =>
    rw [wideV_no hv]
    rw [hv] at H
    clear hv
    go_enter Tryd.func28, Tryd.ntmps28
    go_wp2_with fail
    refine (H.out _).mono ?_
    rintro e w1 ⟨rfl, hb⟩
    go_wp2_with fail
    go_ret
    exact ⟨_, rfl, rfl, hb⟩
  | true =>
    rw [wideV_yes hv]
    have HD := Lib.hid (implDr s (sgValid_80 hv))
    have h80 := sgValid_80 hv
    have HB := Lib.hid (hiOf_bd (m := s.size) (by omega) (drifts_bd s.data.toList s.size))
    have HL := Lib.hid (drifts_length s.data.toList s.size)
    rw [hv] at H
    obtain ⟨D, hD⟩ : ∃ D, D = drifts s.data.toList s.size := ⟨_, rfl⟩
    rw [← hD] at HD HB HL ⊢
    obtain ⟨n, hn⟩ : ∃ n, n = s.size := ⟨_, rfl⟩
    rw [← hn] at h80 HB HL
    clear hv hn hD
    go_enter Tryd.func28, Tryd.ntmps28
    go_wp2_with fail
    refine (H.out _).mono ?_
    rintro e w1 ⟨rfl, hb⟩
    go_wp2_with fail
    refine (HD.out _).mono ?_
    rintro e w2 ⟨A, c, E, rfl, hxs, hO, hb2⟩
    subst hxs
    replace hO := hO.more hb.size
    replace hb2 := hb.trans (hb2.mono hb.size)
    have hsz := hb2.size
    rw [HL.out] at hO ⊢
    clear hb
    go_wp2_with (at_builtin; refine app1 _ rfl _ _ rfl w.heap.size _ _ rfl (Own.alloc hO (Obj.cells #[.int .i64 0] 3)) n HL.out ⟨w2.heap.size, 0, none⟩ 0 rfl (alloc1_cell rfl) (by omega) (by simp; omega) ?_; intro A5 c5 w5 hown5 hgr5)
    have hb5 : Below w.heap.size w w5 := Own.grownBelow (hO.alloc _) hgr5 (hb2.alloc hsz _) (Nat.le_refl _) (by simp; omega)
    clear hgr5 hO hb2
    obtain ⟨g, rfl, hg, hlt⟩ := hown5.some (by simp)
    have hlen : (E ++ [0]).length = n + 1 := by rw [List.length_append, HL.out]; rfl
    have hcells : ∀ j, j < (E ++ [0]).length → w5.cell? ⟨g, 0 + j, none⟩ = some (.int .i64 ((E ++ [0]).getD j 0)) := fun j hj => by
      rw [Nat.zero_add]
      exact hown5.cell (by rw [List.getD, List.getElem?_eq_getElem hj]; rfl)
    have hMx := Any.slices_Max_int Tryd.lays113 g 0 (n + 1) c5 (E ++ [0]) w5 (by omega) (by omega) (by omega) hcells
    have hMn := Any.slices_Min_int Tryd.lays114 g 0 (n + 1) c5 (E ++ [0]) w5 (by omega) (by omega) (by omega) hcells
    rw [List.take_of_length_le (by omega), maxOf_snoc] at hMx
    rw [List.take_of_length_le (by omega), minOf_snoc] at hMn
    change Calls Tryd.prog 43 _ _ _ at hMx
    change Calls Tryd.prog 44 _ _ _ at hMn
    have HMx := Lib.hid hMx
    have HMn := Lib.hid hMn
    obtain ⟨hi, hhi⟩ : ∃ x, x = hiOf E := ⟨_, rfl⟩
    obtain ⟨lo, hlo⟩ : ∃ x, x = loOf E := ⟨_, rfl⟩
    have Hhi := Lib.hid hhi
    have Hlo := Lib.hid hlo
    rw [← hhi] at HMx HB
    rw [← hlo] at HMn HB
    obtain ⟨b1, b2, b3, b4⟩ := HB.out
    clear hcells hMx hMn hown5 hhi hlo hlen
    refine HMx.out.mono ?_
    rintro e w6 ⟨rfl, rfl⟩
    go_wp2_with fail
    refine HMn.out.mono ?_
    rintro e w7 ⟨rfl, rfl⟩
    go_wp2_with fail
    go_ret
    exact ⟨_, rfl, by rw [Hhi.out, Hlo.out], hb5⟩
end Go.Proofs.YtpldkfbglfcidaaDoor
