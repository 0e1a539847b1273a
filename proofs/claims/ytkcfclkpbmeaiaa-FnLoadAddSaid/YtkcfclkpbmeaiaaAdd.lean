/- LoadAdd: reference and program walked. -/
import Derived.Test.YtkcfclkpbmeaiaaLoad3
import Derived.Test.YtkcfclkpbmeaiaaRes
namespace Go.Proofs.Ytkcfclkpbmeaiaa
set_option linter.unusedVariables false
set_option linter.unusedSimpArgs false
open Go.RowKit
def sumL (f g : List Int) : List Int := List.zipWith (· + ·) f g
def AddR (n : Int) (L : List Ln) (p q : Int) (f g xs : List Int) (ok : Bool) : Prop :=
  ((LoadP n L p q f ∧ LoadP n L p q g ∧ LoadP n L p q (sumL f g)) ∧ xs = sumL f g ∧ ok = true) ∨ (¬ (LoadP n L p q f ∧ LoadP n L p q g ∧ LoadP n L p q (sumL f g)) ∧ xs = [] ∧ ok = false)
theorem AddR_fn (n : Int) (L : List Ln) (p q : Int) (f g : List Int) : Fn1 (AddR n L p q f g) := fun xs ok ys ok' h k => by
  rcases h with ⟨h1, h2, h3⟩ | ⟨h1, h2, h3⟩ <;> rcases k with ⟨k1, k2, k3⟩ | ⟨k1, k2, k3⟩
  · exact ⟨h2.trans k2.symm, h3.trans k3.symm⟩
  · exact absurd h1 k1
  · exact absurd k1 h1
  · exact ⟨h2.trans k2.symm, h3.trans k3.symm⟩
theorem sumL_take {f g : List Int} {k : Nat} {x y : Int} (hx : f[k]? = some x) (hy : g[k]? = some y) : (sumL f g).take k ++ [x + y] = (sumL f g).take (k + 1) := by
  have : (sumL f g)[k]? = some (x + y) := by rw [sumL, List.getElem?_zipWith, hx, hy]
  rw [List.take_add_one, this]; rfl
theorem sumL_len {f g : List Int} (h : g.length = f.length) : (sumL f g).length = f.length := by simp [sumL, h]
set_option maxRecDepth 100000 in
theorem sLoadAdd (n : Int) (A : Option Addr) (c : Nat) (L : List Ln) (p q : Int) (F : Option Addr) (cf : Nat) (f : List Int) (G : Option Addr) (cg : Nat) (g : List Int) (hL1 : L.length ≤ 1048576) (hf1 : f.length ≤ 1048576) (hg1 : g.length ≤ 1048576) (w : World) (hL : Lns w w.heap.size A L) (hF : Iv w 0 w.heap.size F f) (hG : Iv w 0 w.heap.size G g) :
    Calls Try.prog 28 #[.int .i64 n, .slice A L.length c, .int .i64 p, .int .i64 q, .slice F f.length cf, .slice G g.length cg] w (SlPost (AddR n L p q f g) w) := by
  have HV1 := Lib.hid (sLoadValid n A c L p q F cf f hL1 hf1 w hL hF)
  have HV2 := Lib.hid (fun w hL hG => sLoadValid n A c L p q G cg g hL1 hg1 w hL hG)
  have HV3 := Lib.hid (fun H ch h1 w hL hH => sLoadValid n A c L p q H ch (sumL f g) hL1 h1 w hL hH)
  obtain ⟨m, hm⟩ : ∃ m, m = f.length := ⟨_, rfl⟩
  obtain ⟨m2, hm2⟩ : ∃ m, m = g.length := ⟨_, rfl⟩
  have Hm := Lib.hid hm
  have Hm2 := Lib.hid hm2
  rw [← hm] at HV1 hf1 ⊢
  rw [← hm2] at HV2 hg1 ⊢
  clear hm hm2
  go_enter Try.func28, Try.ntmps28
  go_wp2_with fail
  refine HV1.out.mono ?_
  rintro e w1 ⟨r, rfl, hr, hb1⟩
  cases r with
  | false =>
    have HP : Hid (¬ LoadP n L p q f) := fun h => by have := hr.2 h; cases this
    clear hr
    go_wp2_with fail
    go_ret2
    exact SlPost.mk (.inr ⟨fun h => HP.out h.1, rfl, rfl⟩) (Own.lit0 _ _ hb1.size) (hb1.alloc hb1.size _)
  | true =>
    have HP1 := Lib.hid (hr.1 rfl)
    clear hr
    go_wp2_with fail
    refine (HV2.out _ ((hL.below hb1).more hb1.size) ((hG.below hb1 (Nat.le_refl _)).more (Nat.le_refl _) hb1.size)).mono ?_
    rintro e w2 ⟨r, rfl, hr, hb2⟩
    replace hb2 := hb1.trans (hb2.mono hb1.size)
    clear hb1
    cases r with
    | false =>
      have HP : Hid (¬ LoadP n L p q g) := fun h => by have := hr.2 h; cases this
      clear hr
      go_wp2_with fail
      go_ret2
      exact SlPost.mk (.inr ⟨fun h => HP.out h.2.1, rfl, rfl⟩) (Own.lit0 _ _ hb2.size) (hb2.alloc hb2.size _)
    | true =>
      have HP2 := Lib.hid (hr.1 rfl)
      clear hr
      have HS : Hid (∀ k x y, f[k]? = some x → g[k]? = some y → -9 ≤ x ∧ x ≤ 9 ∧ -9 ≤ y ∧ y ≤ 9) := fun k x y hx hy => by
        obtain ⟨h2, _⟩ := twoOk_n HP1.out.1
        obtain ⟨_, _, _, hin⟩ := netOk_n h2
        have hkL : k < L.length := by rw [← HP1.out.2.1]; exact (List.getElem?_eq_some_iff.1 hx).1
        have hl : L[k]? = some L[k] := List.getElem?_eq_getElem hkL
        have hh := hin _ (List.mem_of_getElem? hl)
        have h3 := caps_get HP1.out.2.2.1 hl hx
        have h4 := caps_get HP2.out.2.2.1 hl hy
        omega
      have hmm : m2 = m := by rw [Hm.out, Hm2.out, HP1.out.2.1, HP2.out.2.1]
      subst hmm
      have HL : Hid ((sumL f g).length = m2) := by show _ = _; rw [sumL_len (by rw [← Hm.out, ← Hm2.out]), ← Hm.out]
      go_wp2_with fail
      go_loopw [14, 15] (fun v i wr => ∃ (k : Nat) (A' : Option Addr) (c' : Nat), k ≤ m2 ∧ i = .int .i64 k ∧ v = .slice A' k c' ∧ Own wr w2.heap.size (.slice A' k c') ((sumL f g).take k) ∧ Below w.heap.size w wr ∧ w2.heap.size ≤ wr.heap.size) (fun _ i _ => m2 - (intOf i).toNat)
      case atStart => exact ⟨0, _, _, by omega, rfl, rfl, Own.lit0 _ _ (Nat.le_refl _), hb2.alloc hb2.size _, by simp⟩
      case round =>
        obtain ⟨k, A', c', hk, rfl, rfl, hown, hbel, hsz⟩ := hrel
        by_cases hlt : k < m2
        · obtain ⟨b, off, rfl, _, hb, hc⟩ := (hF.below hbel (Nat.le_refl _)) (by rw [← Hm.out]; omega)
          obtain ⟨b', off', rfl, _, hb', hc'⟩ := (hG.below hbel (Nat.le_refl _)) (by rw [← Hm2.out]; omega)
          obtain ⟨x, hx⟩ : ∃ x, f[k]? = some x := ⟨f[k]'(by rw [← Hm.out]; exact hlt), List.getElem?_eq_getElem _⟩
          obtain ⟨y, hy⟩ : ∃ y, g[k]? = some y := ⟨g[k]'(by rw [← Hm2.out]; exact hlt), List.getElem?_eq_getElem _⟩
          have c1 := hc k x hx
          have c2 := hc' k y hy
          obtain ⟨b1, b2, b3, b4⟩ := HS.out k x y hx hy
          have hstep := Lib.hid (sumL_take hx hy)
          have w1' : IntKind.i64.wrap (x + y) = x + y := IntWalk.i64_in _ (by omega)
          clear hc hc' hx hy
          go_wp2_with fail
          go_region_law ((refine step_app1 rfl (.tmp 40) (.tmp 50) rfl w2.heap.size (.slice A' k c') _ (by simp [Act.eval, Act.put]) (by exact Own.alloc hown _) k (by simp; rw [HL.out]; omega) ⟨wr.heap.size, 0, none⟩ (x + y) (by simp [Act.eval, Act.put]) (by simp) (by omega) (by simp; omega) ?_; intro A2 c2 w3 hown3 hgr3))
          all_goals
            rw [hstep.out] at hown3
            have hb3 : Below w.heap.size w w3 := Own.grownBelow (Own.drew (hown.alloc _)) hgr3 ((hbel.alloc hbel.size _).drew) hb2.size (by simp; omega)
            have hsz3 := hgr3.size
            go_wp2_with fail
            go_roundw
            case rel => exact ⟨k + 1, A2, c2, by omega, by go_num, rfl, hown3, hb3, by simp at hsz3; omega⟩
            case measure => simp [intOf]; omega
        · obtain rfl : k = m2 := by omega
          have ht : (sumL f g).take k = sumL f g := List.take_of_length_le (by rw [HL.out]; exact Nat.le_refl _)
          rw [ht] at hown
          have h3 := HV3.out A' c' (by rw [HL.out]; exact hf1) wr ((hL.below hbel).more hbel.size) (hown.iv.more (Nat.zero_le _) (Nat.le_refl _))
          rw [HL.out] at h3
          have H3 := Lib.hid h3
          clear ht h3
          go_wp2_with fail
          refine H3.out.mono ?_
          rintro e w4 ⟨r, rfl, hr, hb4⟩
          have hown4 := (hown.below hb4).more hb2.size
          have hbel4 := hbel.trans (hb4.mono hbel.size)
          clear hb4
          cases r with
          | false =>
            have HP : Hid (¬ LoadP n L p q (sumL f g)) := fun h => by have := hr.2 h; cases this
            clear hr
            go_wp2_with fail
            go_ret2
            exact SlPost.mk (.inr ⟨fun h => HP.out h.2.2, rfl, rfl⟩) (Own.lit0 _ _ hbel4.size) (hbel4.alloc hbel4.size _)
          | true =>
            have HP3 := Lib.hid (hr.1 rfl)
            clear hr
            go_wp2_with fail
            go_ret2
            exact SlPost.mk (.inl ⟨⟨HP1.out, HP2.out, HP3.out⟩, rfl, rfl⟩) (hown4) (hbel4)
set_option maxRecDepth 100000 in
theorem iLoadAdd (n : Int) (A : Option Addr) (c : Nat) (L : List Ln) (p q : Int) (F : Option Addr) (cf : Nat) (f : List Int) (G : Option Addr) (cg : Nat) (g : List Int) (hL1 : L.length ≤ 1048576) (hf1 : f.length ≤ 1048576) (hg1 : g.length ≤ 1048576) (w : World) (hL : Lns w w.heap.size A L) (hF : Iv w 0 w.heap.size F f) (hG : Iv w 0 w.heap.size G g) :
    Calls Try.prog 27 #[.int .i64 n, .slice A L.length c, .int .i64 p, .int .i64 q, .slice F f.length cf, .slice G g.length cg] w (SlPost (AddR n L p q f g) w) := by
  have HV1 := Lib.hid (iLoadValid n A c L p q F cf f hL1 hf1 w hL hF)
  have HV2 := Lib.hid (fun w hL hG => iLoadValid n A c L p q G cg g hL1 hg1 w hL hG)
  have HV3 := Lib.hid (fun H ch h1 w hL hH => iLoadValid n A c L p q H ch (sumL f g) hL1 h1 w hL hH)
  obtain ⟨m, hm⟩ : ∃ m, m = f.length := ⟨_, rfl⟩
  obtain ⟨m2, hm2⟩ : ∃ m, m = g.length := ⟨_, rfl⟩
  have Hm := Lib.hid hm
  have Hm2 := Lib.hid hm2
  rw [← hm] at HV1 hf1 ⊢
  rw [← hm2] at HV2 hg1 ⊢
  clear hm hm2
  go_enter Try.func27, Try.ntmps27
  go_wp2_with fail
  refine HV1.out.mono ?_
  rintro e w1 ⟨r, rfl, hr, hb1⟩
  cases r with
  | false =>
    have HP : Hid (¬ LoadP n L p q f) := fun h => by have := hr.2 h; cases this
    clear hr
    go_wp2_with fail
    go_ret2
    exact SlPost.mk (.inr ⟨fun h => HP.out h.1, rfl, rfl⟩) (Own.nil _ _) (hb1)
  | true =>
    have HP1 := Lib.hid (hr.1 rfl)
    clear hr
    go_wp2_with fail
    refine (HV2.out _ ((hL.below hb1).more hb1.size) ((hG.below hb1 (Nat.le_refl _)).more (Nat.le_refl _) hb1.size)).mono ?_
    rintro e w2 ⟨r, rfl, hr, hb2⟩
    replace hb2 := hb1.trans (hb2.mono hb1.size)
    clear hb1
    cases r with
    | false =>
      have HP : Hid (¬ LoadP n L p q g) := fun h => by have := hr.2 h; cases this
      clear hr
      go_wp2_with fail
      go_ret2
      exact SlPost.mk (.inr ⟨fun h => HP.out h.2.1, rfl, rfl⟩) (Own.nil _ _) (hb2)
    | true =>
      have HP2 := Lib.hid (hr.1 rfl)
      clear hr
      have HS : Hid (∀ k x y, f[k]? = some x → g[k]? = some y → -9 ≤ x ∧ x ≤ 9 ∧ -9 ≤ y ∧ y ≤ 9) := fun k x y hx hy => by
        obtain ⟨h2, _⟩ := twoOk_n HP1.out.1
        obtain ⟨_, _, _, hin⟩ := netOk_n h2
        have hkL : k < L.length := by rw [← HP1.out.2.1]; exact (List.getElem?_eq_some_iff.1 hx).1
        have hl : L[k]? = some L[k] := List.getElem?_eq_getElem hkL
        have hh := hin _ (List.mem_of_getElem? hl)
        have h3 := caps_get HP1.out.2.2.1 hl hx
        have h4 := caps_get HP2.out.2.2.1 hl hy
        omega
      have hmm : m2 = m := by rw [Hm.out, Hm2.out, HP1.out.2.1, HP2.out.2.1]
      subst hmm
      have HL : Hid ((sumL f g).length = m2) := by show _ = _; rw [sumL_len (by rw [← Hm.out, ← Hm2.out]), ← Hm.out]
      have hmk := fun w => mk_cap (m2 : Int) m2 rfl (by omega) w
      go_wp2_with fail
      go_loopw [14, 15, 37] (fun v _ i wr => ∃ (k : Nat) (A' : Option Addr) (c' : Nat), k ≤ m2 ∧ i = .int .i64 k ∧ v = .slice A' k c' ∧ Own wr w2.heap.size (.slice A' k c') ((sumL f g).take k) ∧ Below w.heap.size w wr ∧ w2.heap.size ≤ wr.heap.size) (fun _ _ i _ => m2 - (intOf i).toNat)
      case atStart => exact ⟨0, _, _, by omega, rfl, rfl, Own.made0 _ _ _ (Nat.le_refl _) (by omega), hb2.alloc hb2.size _, by simp⟩
      case round =>
        obtain ⟨k, A', c', hk, rfl, rfl, hown, hbel, hsz⟩ := hrel
        by_cases hlt : k < m2
        · obtain ⟨b, off, rfl, _, hb, hc⟩ := (hF.below hbel (Nat.le_refl _)) (by rw [← Hm.out]; omega)
          obtain ⟨b', off', rfl, _, hb', hc'⟩ := (hG.below hbel (Nat.le_refl _)) (by rw [← Hm2.out]; omega)
          obtain ⟨x, hx⟩ : ∃ x, f[k]? = some x := ⟨f[k]'(by rw [← Hm.out]; exact hlt), List.getElem?_eq_getElem _⟩
          obtain ⟨y, hy⟩ : ∃ y, g[k]? = some y := ⟨g[k]'(by rw [← Hm2.out]; exact hlt), List.getElem?_eq_getElem _⟩
          have c1 := hc k x hx
          have c2 := hc' k y hy
          obtain ⟨b1, b2, b3, b4⟩ := HS.out k x y hx hy
          have hstep := Lib.hid (sumL_take hx hy)
          have w1' : IntKind.i64.wrap (x + y) = x + y := IntWalk.i64_in _ (by omega)
          clear hc hc' hx hy
          go_wp2_with fail
          go_region_law ((refine step_app1 rfl (.tmp 40) (.tmp 50) rfl w2.heap.size (.slice A' k c') _ (by simp [Act.eval, Act.put]) (by exact Own.alloc hown _) k (by simp; rw [HL.out]; omega) ⟨wr.heap.size, 0, none⟩ (x + y) (by simp [Act.eval, Act.put]) (by simp) (by omega) (by simp; omega) ?_; intro A2 c2 w3 hown3 hgr3))
          all_goals
            rw [hstep.out] at hown3
            have hb3 : Below w.heap.size w w3 := Own.grownBelow (Own.drew (hown.alloc _)) hgr3 ((hbel.alloc hbel.size _).drew) hb2.size (by simp; omega)
            have hsz3 := hgr3.size
            go_wp2_with fail
            go_roundw
            case rel => exact ⟨k + 1, A2, c2, by omega, by go_num, rfl, hown3, hb3, by simp at hsz3; omega⟩
            case measure => simp [intOf]; omega
        · obtain rfl : k = m2 := by omega
          have ht : (sumL f g).take k = sumL f g := List.take_of_length_le (by rw [HL.out]; exact Nat.le_refl _)
          rw [ht] at hown
          have h3 := HV3.out A' c' (by rw [HL.out]; exact hf1) wr ((hL.below hbel).more hbel.size) (hown.iv.more (Nat.zero_le _) (Nat.le_refl _))
          rw [HL.out] at h3
          have H3 := Lib.hid h3
          clear ht h3
          go_wp2_with fail
          refine H3.out.mono ?_
          rintro e w4 ⟨r, rfl, hr, hb4⟩
          have hown4 := (hown.below hb4).more hb2.size
          have hbel4 := hbel.trans (hb4.mono hbel.size)
          clear hb4
          cases r with
          | false =>
            have HP : Hid (¬ LoadP n L p q (sumL f g)) := fun h => by have := hr.2 h; cases this
            clear hr
            go_wp2_with fail
            go_ret2
            exact SlPost.mk (.inr ⟨fun h => HP.out h.2.2, rfl, rfl⟩) (Own.nil _ _) (hbel4)
          | true =>
            have HP3 := Lib.hid (hr.1 rfl)
            clear hr
            go_wp2_with fail
            go_ret2
            exact SlPost.mk (.inl ⟨⟨HP1.out, HP2.out, HP3.out⟩, rfl, rfl⟩) (hown4) (hbel4)
theorem sLoadAdd' (n : Int) (A : Option Addr) (c : Nat) (L : List Ln) (p q : Int) (F : Option Addr) (cf : Nat) (f : List Int) (G : Option Addr) (cg : Nat) (g : List Int) (hL1 : L.length ≤ 1048576) (hf1 : f.length ≤ 1048576) (hg1 : g.length ≤ 1048576) (w : World) (hL : Lns w w.heap.size A L) (hF : Iv w 0 w.heap.size F f) (hG : Iv w 0 w.heap.size G g) :
    Calls Try.prog 28 #[.int .i64 n, .slice A L.length c, .int .i64 p, .int .i64 q, .slice F f.length cf, .slice G g.length cg] w (SpPost (AddR n L p q f g) w) :=
  (sLoadAdd n A c L p q F cf f G cg g hL1 hf1 hg1 w hL hF hG).mono fun _ _ h => h.sp
theorem AddR_len {n : Int} {L : List Ln} {p q : Int} {f g xs : List Int} {ok : Bool} (h : AddR n L p q f g xs ok) : xs.length ≤ 1048576 := by
  rcases h with ⟨⟨h1, _, h3⟩, rfl, _⟩ | ⟨_, rfl, _⟩
  · obtain ⟨h2, _⟩ := twoOk_n h1.1
    obtain ⟨_, _, h4, _⟩ := netOk_n h2
    rw [h3.2.1]; omega
  · simp
end Go.Proofs.Ytkcfclkpbmeaiaa
