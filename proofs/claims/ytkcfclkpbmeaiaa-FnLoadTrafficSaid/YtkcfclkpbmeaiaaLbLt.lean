/- The law FnLoadTraffic, walked. -/
import Derived.Test.YtkcfclkpbmeaiaaLawQ
import Derived.Test.YtkcfclkpbmeaiaaDraw3
import Derived.Test.YtkcfclkpbmeaiaaLoad3
import Derived.Test.YtkcfclkpbmeaiaaCutW3
namespace Go.Proofs.Ytkcfclkpbmeaiaa
set_option linter.unusedVariables false
set_option linter.unusedSimpArgs false
open Go.RowKit
set_option maxRecDepth 100000 in
theorem law_LoadTraffic (a0 : Option Addr) (len0 cap0 : Nat) (z0 : List Int) (a1 : Option Addr) (len1 cap1 : Nat) (z1 : List Int) (w : World) (w0 : ArgB w a0 len0 cap0 z0) (w1 : ArgB w a1 len1 cap1 z1) :
    Calls Try.prog 11 #[.slice a0 len0 cap0, .slice a1 len1 cap1] w fun e w' => e = .returned (.bool true) ∧ Below w.heap.size w w' := by
  obtain ⟨hl0, hm0, hby0⟩ := w0.byt
  have hm0' := hm0
  unfold maxLen at hm0'
  obtain ⟨hl1, hm1, hby1⟩ := w1.byt
  have hm1' := hm1
  unfold maxLen at hm1'
  by_cases h0 : 1048576 < len0
  · go_enter Try.func11, Try.ntmps11
    go_wp2_with fail
    go_ret
    exact ⟨rfl, Below.refl _ _⟩
  by_cases h1 : 1048576 < len1
  · go_enter Try.func11, Try.ntmps11
    go_wp2_with fail
    go_ret
    exact ⟨rfl, Below.refl _ _⟩
  have hdr := Lib.hid (drawLoadTraffic a0 len0 cap0 hl0 hm0 _ hby0)
  go_enter Try.func11, Try.ntmps11
  go_wp2_with fail
  refine hdr.out.mono ?_
  rintro e w1 ⟨n, A, c, L, p, q, F, cf, f, rfl, hn2, hn5, hL7, hp0, hp5, hq0, hq5, hoL, hoF, hf7, hbw⟩
  have hcc : L.length ≤ c ∧ c ≤ maxLen := by
    obtain ⟨A0, c0, e0, h1, h2⟩ := hoL.form
    injection e0 with _ _ e0
    subst e0
    exact ⟨h1, h2⟩
  replace hcc := Lib.hid hcc
  have hL : Hid (Lns w1 w1.heap.size A L) := hoL.lns
  have hL1 : L.length ≤ 1048576 := by omega
  have hb := Below.refl w1.heap.size w1
  clear hdr hoL hby0 hm0
  have hf1 : f.length ≤ 1048576 := by omega
  go_wp2_with fail
  refine (iLoadTraffic n A c L p q F cf f hL1 hf1 _ ((hL.out.below hb).more hb.size) (hoF.iv.more (Nat.zero_le _) (Nat.le_refl _))).mono ?_
  rintro e w2 ⟨t, rfl, ht, hb2⟩
  replace hoF := hoF.below hb2
  replace hb := hb.trans (hb2.mono hb.size)
  clear hb2
  replace ht := Lib.hid ht
  go_wp2_with fail
  refine (sLoadTraffic n A c L p q F cf f hL1 hf1 _ ((hL.out.below hb).more hb.size) (hoF.iv.more (Nat.zero_le _) (Nat.le_refl _))).mono ?_
  rintro e w3 ⟨t', rfl, ht', hb3⟩
  replace hoF := hoF.below hb3
  replace hb := hb.trans (hb3.mono hb.size)
  clear hb3
  obtain rfl : t' = t := by
    rcases ht.out with ⟨h1, e1⟩ | ⟨h1, e1⟩ <;> rcases ht' with ⟨h2, e2⟩ | ⟨h2, e2⟩
    · rw [e1, e2]
    · exact absurd h1 h2
    · exact absurd h2 h1
    · rw [e1, e2]
  clear ht' hoF
  by_cases hneg : t' < 0
  · go_wp2_with fail
    go_ret
    exact ⟨rfl, hbw.trans (hb.mono hbw.size)⟩
  obtain ⟨hP, hto⟩ : LoadP n L p q f ∧ t' = outAt L f p := by
    rcases ht.out with h | ⟨_, e⟩
    · exact h
    · exact absurd (by omega) hneg
  have h2 := hP.1
  obtain ⟨nn, pp, qq, rfl, rfl, rfl, n2, n6, hp, hq, hpq, hin, hL10⟩ := two_nat h2
  have hmk : Hid (∀ xs : List Int, xs.length = nn → (∀ x, x ∈ xs → 0 ≤ x ∧ x ≤ 1) → CutP nn L pp qq ((xs.set pp 1).set qq 0) ∧ t' ≤ cutVal (sideF ((xs.set pp 1).set qq 0)) L) := fun xs hl h01 => by
    have hC := cutP_mk h2 hl h01
    exact ⟨hC, by rw [hto]; exact load_le_cut hP hC.sides.1 hC.sides.2⟩
  have hle1 : Hid (t' ≤ mostV nn L pp qq) := by show _ ≤ _; rw [hto]; exact load_le_most hP
  obtain ⟨m, hm⟩ : ∃ m, m = L.length := ⟨_, rfl⟩
  have hle2 : Hid (t' ≤ starTo pp L m) := by
    show _ ≤ _
    rw [hto, hm, star_all hin]
    exact load_le_cut hP (bT rfl) (bF (by omega))
  clear hP hto ht h2
  replace hL1 := Lib.hid hL1
  have hm7 : m ≤ 7 := by omega
  have Hm := Lib.hid hm
  rw [← hm]
  clear hm hL7 hL10 hf7
  go_wp2_with fail
  go_loopw [12, 13, 14] (fun v u i wr => ∃ (k bt : Nat) (xs : List Int) (A' : Option Addr) (c' : Nat), k ≤ nn ∧ i = .int .i64 k ∧ v = .slice A' k c' ∧ u = .int .i64 bt ∧ bt ≤ 1048576 ∧ Hid (xs.length = k ∧ ∀ x, x ∈ xs → 0 ≤ x ∧ x ≤ 1) ∧ Own wr w3.heap.size (.slice A' k c') xs ∧ Below w3.heap.size w3 wr) (fun _ _ i _ => nn - (intOf i).toNat)
  case atStart => exact ⟨0, len1, [], _, _, by omega, rfl, rfl, rfl, by omega, ⟨rfl, by simp⟩, Own.lit0 w3 w3.heap.size (Nat.le_refl _), (Below.refl _ _).alloc (Nat.le_refl _) _⟩
  case round =>
    obtain ⟨k, bt, xs, A', c', hk, rfl, rfl, rfl, hbt, hxs, hown, hbel⟩ := hrel
    by_cases hkm : k < nn
    · have hlk := Lib.hid hxs.out.1
      have hb01 : 0 ≤ (bt : Int) % 2 ∧ (bt : Int) % 2 ≤ 1 := by omega
      have hxs' : Hid ((xs ++ [(bt : Int) % 2]).length = k + 1 ∧ ∀ x, x ∈ xs ++ [(bt : Int) % 2] → 0 ≤ x ∧ x ≤ 1) := ⟨by rw [List.length_append, hlk.out]; rfl, fun x hx => by
        rw [List.mem_append] at hx
        rcases hx with hx | hx
        · exact hxs.out.2 x hx
        · simp at hx; rw [hx]; exact hb01⟩
      clear hb01
      go_wp2_with (at_builtin; refine app1 _ rfl _ _ rfl w3.heap.size _ _ rfl (Own.alloc hown (Obj.cells #[.int .i64 ((bt : Int) % 2)] 3)) k hlk.out ⟨wr.heap.size, 0, none⟩ ((bt : Int) % 2) rfl (alloc1_cell rfl) (by omega) (by simp; have := hbel.size; omega) ?_; intro A3 c3 w8 hown8 hgr8)
      have hb8 := Own.grownBelow (Own.alloc hown (Obj.cells #[.int .i64 ((bt : Int) % 2)] 3)) hgr8 (hbel.alloc hbel.size _) (Nat.le_refl _) (by simp; have := hbel.size; omega)
      go_wp2_with fail
      go_roundw
      case rel => exact ⟨k + 1, bt / 2, _, A3, c3, by omega, by go_num, rfl, by go_num, by omega, hxs', hown8, hb8⟩
      case measure => simp [intOf]; omega
    · obtain rfl : k = nn := by omega
      obtain ⟨nz, hnz⟩ : ∃ nz : Nat, nz = k := ⟨_, rfl⟩
      subst hnz
      obtain ⟨hxl, h01⟩ := hxs.out
      obtain ⟨g4, rfl, hg4B, hg4l⟩ := hown.some (by omega)
      have hf1 := hown.frozen pp
      obtain ⟨u1, hc1⟩ : ∃ u, wr.cell? ⟨g4, pp, none⟩ = some u := ⟨_, hown.cell (List.getElem?_eq_getElem (show pp < xs.length by omega))⟩
      have st1 := hown.stored pp 1 (by omega)
      have hqx : qq < (xs.set pp 1).length := by rw [List.length_set]; omega
      have hf2 := st1.frozen qq
      obtain ⟨u2, hc2⟩ : ∃ u, (wr.setCell ⟨g4, pp, none⟩ (.int .i64 1)).cell? ⟨g4, qq, none⟩ = some u := ⟨_, st1.cell (List.getElem?_eq_getElem hqx)⟩
      have st2 := st1.stored qq 0 hqx
      obtain ⟨hC, hle3⟩ := hmk.out xs hxl h01
      obtain ⟨ys, hys⟩ : ∃ ys, ys = (xs.set pp 1).set qq 0 := ⟨_, rfl⟩
      have hyl : Hid (ys.length = nz) := by show _ = _; rw [hys]; simp [hxl]
      rw [← hys] at hC hle3 st2
      replace hC := Lib.hid hC
      replace hle3 := Lib.hid hle3
      have Hst2 := Lib.hid st2
      have hbs := hb.size
      replace hb := hb.trans (hbel.mono hb.size)
      have hbz := (hb.setCell (p := ⟨g4, pp, none⟩) (by show _ ≤ g4; omega) (.int .i64 1)).setCell (p := ⟨g4, qq, none⟩) (by show _ ≤ g4; omega) (.int .i64 0)
      have hg4w : g4 < wr.heap.size := hg4l
      clear hbel hmk hxl h01 hxs hys st1 st2 hown hqx
      have hLz : Hid (Lns ((wr.setCell ⟨g4, pp, none⟩ (.int .i64 1)).setCell ⟨g4, qq, none⟩ (.int .i64 0)) ((wr.setCell ⟨g4, pp, none⟩ (.int .i64 1)).setCell ⟨g4, qq, none⟩ (.int .i64 0)).heap.size A L) := ((hL.out.below hbz).more hbz.size)
      have hst0 : Hid (∀ k, k ≤ m → 0 ≤ starTo pp L k ∧ starTo pp L k ≤ 9 * k) := fun k hk => star_bound hin k (by rw [← Hm.out]; exact hk)
      have hst1 : Hid (∀ (k : Nat) (l : Ln), L[k]? = some l → starTo pp L (k + 1) = starTo pp L k + (if l.a = (pp : Int) ∨ l.b = (pp : Int) then l.c else 0)) := fun k l hl => by show _ = _; rw [starTo, hl]
      have hinz : Hid (∀ (k : Nat) (l : Ln), L[k]? = some l → 1 ≤ l.c ∧ l.c ≤ 9) := fun k l hl => by have := hin l (List.mem_of_getElem? hl); exact ⟨by omega, by omega⟩
      go_wp2_with fail
      go_loopw [15, 16] (fun v i wz => ∃ k : Nat, k ≤ m ∧ i = .int .i64 k ∧ v = .int .i64 (starTo pp L k) ∧ wz = (wr.setCell ⟨g4, pp, none⟩ (.int .i64 1)).setCell ⟨g4, qq, none⟩ (.int .i64 0)) (fun _ i _ => m - (intOf i).toNat)
      case atStart => exact ⟨0, by omega, rfl, rfl, rfl⟩
      case round =>
        obtain ⟨k, hk, rfl, rfl, rfl⟩ := hrel
        obtain ⟨v, hv⟩ : ∃ v, v = starTo pp L k := ⟨_, rfl⟩
        by_cases hkm : k < m
        · obtain ⟨b, off, rfl, hbB, hc⟩ := hLz.out (by rw [← Hm.out]; omega)
          obtain ⟨l, hl⟩ : ∃ l, L[k]? = some l := ⟨L[k]'(by rw [← Hm.out]; exact hkm), List.getElem?_eq_getElem _⟩
          obtain ⟨c1, c2', c3'⟩ := hc k l hl
          obtain ⟨hc1, hc9⟩ := hinz.out k l hl
          obtain ⟨hv0, hv9⟩ := hst0.out k hk
          have hnx := hst1.out k l hl
          rw [← hv] at hv0 hv9 hnx ⊢
          clear hc hl hv
          by_cases ea : l.a = (pp : Int)
          · have t0 := bT ea
            rw [if_pos (.inl ea)] at hnx
            have Hnx := Lib.hid hnx
            clear hnx ea
            go_wp2_with fail
            go_roundw
            case rel => exact ⟨k + 1, by omega, by go_num, by rw [Hnx.out], by first | rfl | trivial⟩
            case measure => simp [intOf]; omega
          · by_cases eb : l.b = (pp : Int)
            · have t0 := bF ea
              have t1 := bT eb
              rw [if_pos (.inr eb)] at hnx
              have Hnx := Lib.hid hnx
              clear hnx ea eb
              go_wp2_with fail
              go_roundw
              case rel => exact ⟨k + 1, by omega, by go_num, by rw [Hnx.out], by first | rfl | trivial⟩
              case measure => simp [intOf]; omega
            · have t0 := bF ea
              have t1 := bF eb
              rw [if_neg (by intro h; rcases h with h | h; exact ea h; exact eb h), Int.add_zero] at hnx
              have Hnx := Lib.hid hnx
              clear hnx ea eb
              go_wp2_with fail
              go_roundw
              case rel => exact ⟨k + 1, by omega, by go_num, by rw [Hnx.out], by first | rfl | trivial⟩
              case measure => simp [intOf]; omega
        · obtain rfl : k = m := by omega
          clear hst0 hst1 hinz
          have hT1 := Lib.hid (fun w hL => iTrafficMost nz A c L pp qq hL1.out w hL)
          have hT2 := Lib.hid (fun A' c' w hL hF => iCutOf nz A c L pp qq A' c' ys hL1.out (by rw [hyl.out]; omega) w hL hF)
          rw [← Hm.out] at hT1
          rw [hyl.out, ← Hm.out] at hT2
          have hle2' : t' ≤ v := by rw [hv]; exact hle2.out
          rw [← hv]
          clear hv hle2
          replace hb := hbz
          clear hbz hc1 hc2 hf1 hf2
          go_wp2_with fail
          refine (hT1.out _ ((hL.out.below hb).more hb.size)).mono ?_
          rintro e w4 ⟨x, rfl, hx, hb4⟩
          have hO9 := Hst2.out.below hb4
          replace hb := hb.trans (hb4.mono hb.size)
          clear hb4
          have hle1' : t' ≤ x := by rw [hx]; exact hle1.out
          clear hx
          go_wp2_with fail
          refine (hT2.out _ _ _ ((hL.out.below hb).more hb.size) (hO9.iv.more (Nat.zero_le _) (Nat.le_refl _))).mono ?_
          rintro e w5 ⟨y, rfl, hy, hb5⟩
          replace hb := hb.trans (hb5.mono hb.size)
          clear hb5
          have hle3' : t' ≤ y := by
            rcases hy with ⟨_, e⟩ | ⟨h, _⟩
            · rw [e]; exact hle3.out
            · exact absurd hC.out h
          clear hy
          go_wp2_with fail
          go_ret
          exact ⟨rfl, hbw.trans (hb.mono hbw.size)⟩
end Go.Proofs.Ytkcfclkpbmeaiaa
