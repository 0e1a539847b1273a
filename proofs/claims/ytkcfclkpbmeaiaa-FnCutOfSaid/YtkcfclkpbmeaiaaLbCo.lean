/- The law FnCutOf, walked. -/
import Derived.Deep.Cut
import Derived.Test.YtkcfclkpbmeaiaaLawQ
import Derived.Test.YtkcfclkpbmeaiaaDraw3
import Derived.Test.YtkcfclkpbmeaiaaCutW3
namespace Go.Proofs.Ytkcfclkpbmeaiaa
set_option linter.unusedVariables false
set_option linter.unusedSimpArgs false
open Go.RowKit
set_option maxRecDepth 100000 in
theorem law_CutOf (a0 : Option Addr) (len0 cap0 : Nat) (z0 : List Int) (w : World) (w0 : ArgB w a0 len0 cap0 z0) :
    Calls Try.prog 5 #[.slice a0 len0 cap0] w fun e w' => e = .returned (.bool true) ∧ Below w.heap.size w w' := by
  obtain ⟨hl0, hm0, hby0⟩ := w0.byt
  have hm0' := hm0
  unfold maxLen at hm0'
  by_cases h0 : 1048576 < len0
  · go_enter Try.func5, Try.ntmps5
    go_wp2_with fail
    go_ret
    exact ⟨rfl, Below.refl _ _⟩
  have hdr := Lib.hid (drawCutOf a0 len0 cap0 hl0 hm0 _ hby0)
  go_enter Try.func5, Try.ntmps5
  go_wp2_with fail
  refine hdr.out.mono ?_
  rintro e w1 ⟨n, A, c, L, p, q, F, cf, f, rfl, hn2, hn5, hL7, hp0, hp5, hq0, hq5, hoL, hoF, hf7, hbw⟩
  have hcc : L.length ≤ c ∧ c ≤ maxLen := by
    obtain ⟨A0, c0, e0, h1, h2⟩ := hoL.form
    injection e0 with _ _ e0
    subst e0
    exact ⟨h1, h2⟩
  replace hcc := Lib.hid hcc
  have hL : Hid (Lns w1 w1.heap.size A L) := hoL.lns
  have hL1 : L.length ≤ 1048576 := by omega
  have hb := Below.refl w1.heap.size w1
  clear hdr hoL hby0 hm0
  have hf1 : f.length ≤ 1048576 := by omega
  go_wp2_with fail
  refine (iCutOf n A c L p q F cf f hL1 hf1 _ ((hL.out.below hb).more hb.size) (hoF.iv.more (Nat.zero_le _) (Nat.le_refl _))).mono ?_
  rintro e w2 ⟨t, rfl, ht, hb2⟩
  replace hoF := hoF.below hb2
  replace hb := hb.trans (hb2.mono hb.size)
  clear hb2
  replace ht := Lib.hid ht
  go_wp2_with fail
  refine (sCutOf n A c L p q F cf f hL1 hf1 _ ((hL.out.below hb).more hb.size) (hoF.iv.more (Nat.zero_le _) (Nat.le_refl _))).mono ?_
  rintro e w3 ⟨t', rfl, ht', hb3⟩
  replace hoF := hoF.below hb3
  replace hb := hb.trans (hb3.mono hb.size)
  clear hb3
  obtain rfl : t' = t := by
    rcases ht.out with ⟨h1, e1⟩ | ⟨h1, e1⟩ <;> rcases ht' with ⟨h2, e2⟩ | ⟨h2, e2⟩
    · rw [e1, e2]
    · exact absurd h1 h2
    · exact absurd h2 h1
    · rw [e1, e2]
  clear ht'
  by_cases hneg : t' < 0
  · go_wp2_with fail
    go_ret
    exact ⟨rfl, hbw.trans (hb.mono hbw.size)⟩
  obtain ⟨hC, hto⟩ : CutP n L p q f ∧ t' = cutVal (sideF f) L := by
    rcases ht.out with h | ⟨_, e⟩
    · exact h
    · exact absurd (by omega) hneg
  have h2 := hC.1
  obtain ⟨nn, pp, qq, rfl, rfl, rfl, n2, n6, hp, hq, hpq, hin, hL10⟩ := two_nat h2
  obtain ⟨m, hm⟩ : ∃ m, m = L.length := ⟨_, rfl⟩
  have hA : Hid (CutP nn L pp qq ((List.replicate nn (1 : Int)).set qq 0) ∧ cutVal (sideF ((List.replicate nn (1 : Int)).set qq 0)) L = starTo qq L m) := by rw [hm]; exact cut_all h2
  have hO : Hid (CutP nn L qq pp (f.map fun x => 1 - x) ∧ cutVal (sideF (f.map fun x => 1 - x)) L = t') := by rw [hto]; exact cut_other hC
  have hle1 : Hid (mostV nn L pp qq ≤ t') := by show _ ≤ _; rw [hto]; exact cut_ge hC
  have hfl : f.length = nn := by have := hC.2.1; omega
  have hnk := Lib.hid (fun (k : Nat) (x : Int) (h : (f.map fun x => 1 - x)[k]? = some x) => take_next h)
  have hbd : Hid (∀ (k : Nat) (x : Int), f[k]? = some x → 0 ≤ x ∧ x ≤ 1 ∧ (f.map fun x => 1 - x)[k]? = some (1 - x)) := fun k x hx => by
    have h := hC.2.2.1 x (List.mem_of_getElem? hx)
    exact ⟨h.1, h.2, by rw [List.getElem?_map, hx]; rfl⟩
  obtain ⟨g, hg⟩ : ∃ g, g = f.map fun x => 1 - x := ⟨_, rfl⟩
  have hgl : Hid (g.length = nn) := by show _ = _; rw [hg, List.length_map, hfl]
  have hF : Hid (∀ k, k < nn → ∃ x, f[k]? = some x) := fun k hk => ⟨f[k], List.getElem?_eq_getElem (by omega)⟩
  rw [← hg] at hO hbd hnk
  have hFi := Lib.hid hoF.iv
  have hfp : Hid (0 < f.length) := by show _ < _; omega
  have hone : Hid (∀ k, List.replicate k (1 : Int) ++ [1] = List.replicate (k + 1) 1) := fun k => by rw [List.replicate_succ']
  clear hg hC hto ht h2 hoF
  replace hL1 := Lib.hid hL1
  have hm7 : m ≤ 7 := by omega
  have Hm := Lib.hid hm
  rw [← hm, hfl]
  clear hm hL7 hL10 hf7 hf1 hfl
  go_wp2_with fail
  go_loopw [10, 11, 12] (fun v u i wr => ∃ (k : Nat) (A' : Option Addr) (c' : Nat) (A'' : Option Addr) (c'' : Nat), k ≤ nn ∧ i = .int .i64 k ∧ v = .slice A' k c' ∧ u = .slice A'' k c'' ∧ Own wr w3.heap.size (.slice A' k c') (g.take k) ∧ Own wr w3.heap.size (.slice A'' k c'') (List.replicate k 1) ∧ Sep (.slice A' k c') (.slice A'' k c'') ∧ Below w3.heap.size w3 wr) (fun _ _ i _ => nn - (intOf i).toNat)
  case atStart => exact ⟨0, _, _, _, _, by omega, rfl, rfl, rfl, by rw [List.take_zero]; exact (Own.lit0 w3 w3.heap.size (Nat.le_refl _)).alloc _, by have := Own.lit0 (w3.alloc (Obj.cells #[] 3)) w3.heap.size (by simp); simpa using this, (by intro j hj hk; simp [Value.ownBlock] at hj hk; omega), ((Below.refl _ _).alloc (Nat.le_refl _) _).alloc (by simp) _⟩
  case round =>
    obtain ⟨k, A', c', A'', c'', hk, rfl, rfl, rfl, hown, hall, hsep, hbel⟩ := hrel
    by_cases hkm : k < nn
    · obtain ⟨bf, of, rfl, _, hbf, hcf⟩ := hFi.out hfp.out
      obtain ⟨x, hx⟩ := hF.out k hkm
      have c1 := (hbel.cell (p := ⟨bf, _, none⟩) hbf).trans (hcf k x hx)
      obtain ⟨hx0, hx9, hgk⟩ := hbd.out k x hx
      have hn9 := Lib.hid (hnk.out k _ hgk)
      have hlk : Hid ((g.take k).length = k) := by show _ = _; rw [List.length_take, hgl.out]; omega
      have hlr : Hid ((List.replicate k (1 : Int)).length = k) := List.length_replicate
      have hbs := hbel.size
      clear hcf hx hgk
      go_upto_region 14 with (at_builtin; refine app1x _ rfl _ _ rfl w3.heap.size _ _ _ _ rfl (Own.alloc hown (Obj.cells #[.int .i64 (1 - x)] 3)) hlk.out ⟨wr.heap.size, 0, none⟩ (1 - x) rfl (alloc1_cell rfl) (by omega) (by simp; omega) ?_; intro A3 c3 w8 hown8 hgr8 hbl8)
      have hb8 := Own.grownBelow (Own.alloc hown (Obj.cells #[.int .i64 (1 - x)] 3)) hgr8 (hbel.alloc hbel.size _) (Nat.le_refl _) (by simp; omega)
      have hall8 := (Own.alloc hall (Obj.cells #[.int .i64 (1 - x)] 3)).apart hgr8 hsep
      have hsep8 := hsep.next (v' := .slice A3 (k + 1) c3) hbl8 (fun j hj => ((Own.alloc hall (Obj.cells #[.int .i64 (1 - x)] 3)).block j hj).2)
      have hbs8 := hb8.size
      clear hown hall hsep hbel hgr8 hbl8 c1
      go_wp2_with (at_builtin; refine app1x _ rfl _ _ rfl w3.heap.size _ _ _ _ rfl (Own.alloc hall8 (Obj.cells #[.int .i64 1] 3)) hlr.out ⟨w8.heap.size, 0, none⟩ 1 rfl (alloc1_cell rfl) (by omega) (by simp; omega) ?_; intro A4 c4 w9 hown9 hgr9 hbl9)
      have hb9 := Own.grownBelow (Own.alloc hall8 (Obj.cells #[.int .i64 1] 3)) hgr9 (hb8.alloc hb8.size _) (Nat.le_refl _) (by simp; omega)
      have hoth9 := (Own.alloc hown8 (Obj.cells #[.int .i64 1] 3)).apart hgr9 hsep8.symm
      have hsep9 := (hsep8.symm.next (v' := .slice A4 (k + 1) c4) hbl9 (fun j hj => ((Own.alloc hown8 (Obj.cells #[.int .i64 1] 3)).block j hj).2)).symm
      rw [hone.out] at hown9
      rw [hn9.out] at hoth9
      clear hgr9 hbl9 hown8 hall8 hsep8 hb8
      go_wp2_with fail
      go_roundw
      case rel => exact ⟨k + 1, A3, c3, A4, c4, by omega, by go_num, rfl, rfl, hoth9, hown9, hsep9, hb9⟩
      case measure => simp [intOf]; omega
    · obtain rfl : k = nn := by omega
      obtain ⟨nz, hnz⟩ : ∃ nz : Nat, nz = k := ⟨_, rfl⟩
      subst hnz
      have hgt : g.take nz = g := List.take_of_length_le (by rw [hgl.out]; exact Nat.le_refl _)
      rw [hgt] at hown
      obtain ⟨g4, rfl, hg4B, hg4l⟩ := hall.some (by simp; omega)
      have hql : qq < (List.replicate nz (1 : Int)).length := by simp; omega
      have hf1 := hall.frozen qq
      obtain ⟨u1, hc1⟩ : ∃ u, wr.cell? ⟨g4, qq, none⟩ = some u := ⟨_, hall.cell (List.getElem?_eq_getElem hql)⟩
      have st1 := hall.stored qq 0 hql
      have ot1 := hown.apart (v := .slice (some ⟨g4, 0, none⟩) nz c'') (grown_set wr g4 qq (.int .i64 0)) hsep.symm
      obtain ⟨ys, hys⟩ : ∃ ys, ys = (List.replicate nz (1 : Int)).set qq 0 := ⟨_, rfl⟩
      have hyl : Hid (ys.length = nz) := by show _ = _; rw [hys]; simp
      rw [← hys] at st1 hA
      have Hst1 := Lib.hid st1
      have Hot1 := Lib.hid ot1
      have hbs := hb.size
      replace hb := hb.trans (hbel.mono hb.size)
      have hbz := hb.setCell (p := ⟨g4, qq, none⟩) (by show _ ≤ g4; omega) (.int .i64 0)
      have hg4w : g4 < wr.heap.size := hg4l
      clear hbel hys st1 ot1 hown hall hsep hgt hF hbd hnk hone hql
      have hLz : Hid (Lns (wr.setCell ⟨g4, qq, none⟩ (.int .i64 0)) (wr.setCell ⟨g4, qq, none⟩ (.int .i64 0)).heap.size A L) := ((hL.out.below hbz).more hbz.size)
      have hst0 : Hid (∀ k, k ≤ m → 0 ≤ starTo qq L k ∧ starTo qq L k ≤ 9 * k) := fun k hk => star_bound hin k (by rw [← Hm.out]; exact hk)
      have hst1 : Hid (∀ (k : Nat) (l : Ln), L[k]? = some l → starTo qq L (k + 1) = starTo qq L k + (if l.a = (qq : Int) ∨ l.b = (qq : Int) then l.c else 0)) := fun k l hl => by show _ = _; rw [starTo, hl]
      have hinz : Hid (∀ (k : Nat) (l : Ln), L[k]? = some l → 1 ≤ l.c ∧ l.c ≤ 9) := fun k l hl => by have := hin l (List.mem_of_getElem? hl); exact ⟨by omega, by omega⟩
      go_wp2_with fail
      go_loopw [13, 14] (fun v i wz => ∃ k : Nat, k ≤ m ∧ i = .int .i64 k ∧ v = .int .i64 (starTo qq L k) ∧ wz = wr.setCell ⟨g4, qq, none⟩ (.int .i64 0)) (fun _ i _ => m - (intOf i).toNat)
      case atStart => exact ⟨0, by omega, rfl, rfl, rfl⟩
      case round =>
        obtain ⟨k, hk, rfl, rfl, rfl⟩ := hrel
        obtain ⟨v, hv⟩ : ∃ v, v = starTo qq L k := ⟨_, rfl⟩
        by_cases hkm : k < m
        · obtain ⟨b, off, rfl, hbB, hc⟩ := hLz.out (by rw [← Hm.out]; omega)
          obtain ⟨l, hl⟩ : ∃ l, L[k]? = some l := ⟨L[k]'(by rw [← Hm.out]; exact hkm), List.getElem?_eq_getElem _⟩
          obtain ⟨c1, c2', c3'⟩ := hc k l hl
          obtain ⟨hc1, hc9⟩ := hinz.out k l hl
          obtain ⟨hv0, hv9⟩ := hst0.out k hk
          have hnx := hst1.out k l hl
          rw [← hv] at hv0 hv9 hnx ⊢
          clear hc hl hv
          by_cases ea : l.a = (qq : Int)
          · have t0 := bT ea
            rw [if_pos (.inl ea)] at hnx
            have Hnx := Lib.hid hnx
            clear hnx ea
            go_wp2_with fail
            go_roundw
            case rel => exact ⟨k + 1, by omega, by go_num, by rw [Hnx.out], by first | rfl | trivial⟩
            case measure => simp [intOf]; omega
          · by_cases eb : l.b = (qq : Int)
            · have t0 := bF ea
              have t1 := bT eb
              rw [if_pos (.inr eb)] at hnx
              have Hnx := Lib.hid hnx
              clear hnx ea eb
              go_wp2_with fail
              go_roundw
              case rel => exact ⟨k + 1, by omega, by go_num, by rw [Hnx.out], by first | rfl | trivial⟩
              case measure => simp [intOf]; omega
            · have t0 := bF ea
              have t1 := bF eb
              rw [if_neg (by intro h; rcases h with h | h; exact ea h; exact eb h), Int.add_zero] at hnx
              have Hnx := Lib.hid hnx
              clear hnx ea eb
              go_wp2_with fail
              go_roundw
              case rel => exact ⟨k + 1, by omega, by go_num, by rw [Hnx.out], by first | rfl | trivial⟩
              case measure => simp [intOf]; omega
        · obtain rfl : k = m := by omega
          clear hst0 hst1 hinz
          have hT1 := Lib.hid (fun w hL => iTrafficMost nz A c L pp qq hL1.out w hL)
          have hT2 := Lib.hid (fun A' c' w hL hF => iCutOf nz A c L pp qq A' c' ys hL1.out (by rw [hyl.out]; omega) w hL hF)
          have hT3 := Lib.hid (fun A' c' w hL hF => iCutOf nz A c L qq pp A' c' g hL1.out (by rw [hgl.out]; omega) w hL hF)
          rw [← Hm.out] at hT1
          rw [hyl.out, ← Hm.out] at hT2
          rw [hgl.out, ← Hm.out] at hT3
          have hv' := Lib.hid hv
          clear hv
          rw [← hv'.out]
          replace hb := hbz
          have hot := Hot1.out
          have hst := Hst1.out
          clear hbz hc1 hf1
          go_wp2_with fail
          refine (hT3.out _ _ _ ((hL.out.below hb).more hb.size) (hot.iv.more (Nat.zero_le _) (Nat.le_refl _))).mono ?_
          rintro e w4 ⟨y, rfl, hy, hb4⟩
          replace hot := hot.below hb4
          replace hst := hst.below hb4
          replace hb := hb.trans (hb4.mono hb.size)
          clear hb4
          obtain rfl : y = t' := by
            rcases hy with ⟨_, e⟩ | ⟨h, _⟩
            · rw [e]; exact hO.out.2
            · exact absurd hO.out.1 h
          clear hy hot
          go_wp2_with fail
          refine (hT2.out _ _ _ ((hL.out.below hb).more hb.size) (hst.iv.more (Nat.zero_le _) (Nat.le_refl _))).mono ?_
          rintro e w5 ⟨z, rfl, hz, hb5⟩
          replace hst := hst.below hb5
          replace hb := hb.trans (hb5.mono hb.size)
          clear hb5
          obtain rfl : z = v := by
            rcases hz with ⟨_, e⟩ | ⟨h, _⟩
            · rw [e, hA.out.2]; exact hv'.out.symm
            · exact absurd hA.out.1 h
          clear hz hst
          go_wp2_with fail
          refine (hT1.out _ ((hL.out.below hb).more hb.size)).mono ?_
          rintro e w6 ⟨x, rfl, hx, hb6⟩
          replace hb := hb.trans (hb6.mono hb.size)
          clear hb6
          have hle1' : x ≤ y := by rw [hx]; exact hle1.out
          clear hx
          go_wp2_with fail
          go_ret
          exact ⟨rfl, hbw.trans (hb.mono hbw.size)⟩
end Go.Proofs.Ytkcfclkpbmeaiaa
