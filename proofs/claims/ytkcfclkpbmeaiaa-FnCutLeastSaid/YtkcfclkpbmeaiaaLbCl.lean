/- The law FnCutLeast, walked. -/
import Derived.Deep.Cut
import Derived.Test.YtkcfclkpbmeaiaaLawQ
import Derived.Test.YtkcfclkpbmeaiaaTwo
import Derived.Test.YtkcfclkpbmeaiaaCutW3
import Derived.Test.YtkcfclkpbmeaiaaLeast2
import Derived.Test.YtkcfclkpbmeaiaaHelp
import Derived.Test.YtkcfclkpbmeaiaaAppO
import Derived.Test.YtkcfclkpbmeaiaaOwnL
namespace Go.Proofs.Ytkcfclkpbmeaiaa
set_option linter.unusedVariables false
set_option linter.unusedSimpArgs false
open Go.RowKit
set_option maxRecDepth 100000 in
theorem law_CutLeast (a0 : Option Addr) (len0 cap0 : Nat) (z0 : List Int) (w : World) (w0 : ArgB w a0 len0 cap0 z0) :
    Calls Try.prog 8 #[.slice a0 len0 cap0] w fun e w' => e = .returned (.bool true) ∧ Below w.heap.size w w' := by
  obtain ⟨hl0, hm0, hby0⟩ := w0.byt
  have hm0' := hm0
  unfold maxLen at hm0'
  by_cases h0 : 1048576 < len0
  · go_enter Try.func8, Try.ntmps8
    go_wp2_with fail
    go_ret
    exact ⟨rfl, Below.refl _ _⟩
  have hdr := Lib.hid (drawCutLeast a0 len0 cap0 hl0 hm0 _ hby0)
  go_enter Try.func8, Try.ntmps8
  go_wp2_with fail
  refine hdr.out.mono ?_
  rintro e w1 ⟨n, A, c, L, p, q, rfl, hn2, hn5, hL7, hp0, hp5, hq0, hq5, hoL, hbw⟩
  have hcc : L.length ≤ c ∧ c ≤ maxLen := by
    obtain ⟨A0, c0, e0, h1, h2⟩ := hoL.form
    injection e0 with _ _ e0
    subst e0
    exact ⟨h1, h2⟩
  replace hcc := Lib.hid hcc
  have hL : Hid (Lns w1 w1.heap.size A L) := hoL.lns
  have hL1 : L.length ≤ 1048576 := by omega
  have hb := Below.refl w1.heap.size w1
  clear hdr hoL hby0 hm0
  go_wp2_with fail
  refine (iCutLeast n A c L p q hL1 _ ((hL.out.below hb).more hb.size)).mono ?_
  rintro e w2 ⟨A2, c2, xs, ok, rfl, hR, hO2, hb2⟩
  replace hb := hb.trans (hb2.mono hb.size)
  clear hb2
  replace hR := Lib.hid hR
  go_wp2_with fail
  refine (sCutLeast n A c L p q hL1 _ ((hL.out.below hb).more hb.size)).mono ?_
  rintro e w3 ⟨A3, c3, xs', ok', rfl, hR', hO3, hb3⟩
  obtain ⟨e1, e2⟩ := (LeastR_fn _ _ _ _) _ _ _ _ hR' hR.out
  subst e1 e2
  clear hR'
  replace hO2 := hO2.below hb3
  replace hb := hb.trans (hb3.mono hb.size)
  clear hb3
  have hx1 := LeastR_len hR.out
  have hI3 := Lib.hid hO3
  cases ok' with
  | false =>
    go_wp2_with fail
    refine (sameInts_same _ _ _ _ _ _ _ _ xs' hx1 _ hO2.iv hI3.out).mono ?_
    rintro e w4 ⟨rfl, hb4⟩
    replace hO2 := hO2.below hb4
    replace hI3 : Hid (Iv w4 0 w4.heap.size A3 xs') := (hI3.out.more (Nat.zero_le _) (Nat.le_refl _)).below hb4 (Nat.le_refl _) |>.more (Nat.le_refl _) hb4.size
    replace hb := hb.trans (hb4.mono hb.size)
    clear hb4
    go_wp2_with fail
    refine (sameInts_same _ _ _ _ _ _ _ _ xs' hx1 _ hO2.iv hI3.out).mono ?_
    rintro e w5 ⟨rfl, hb5⟩
    replace hO2 := hO2.below hb5
    replace hI3 : Hid (Iv w5 0 w5.heap.size A3 xs') := (hI3.out.more (Nat.zero_le _) (Nat.le_refl _)).below hb5 (Nat.le_refl _) |>.more (Nat.le_refl _) hb5.size
    replace hb := hb.trans (hb5.mono hb.size)
    clear hb5
    go_wp2_with fail
    go_ret
    exact ⟨rfl, hbw.trans (hb.mono hbw.size)⟩
  | true =>
    go_wp2_with fail
    refine (sameInts_same _ _ _ _ _ _ _ _ xs' hx1 _ hO2.iv hI3.out).mono ?_
    rintro e w4 ⟨rfl, hb4⟩
    replace hO2 := hO2.below hb4
    replace hI3 : Hid (Iv w4 0 w4.heap.size A3 xs') := (hI3.out.more (Nat.zero_le _) (Nat.le_refl _)).below hb4 (Nat.le_refl _) |>.more (Nat.le_refl _) hb4.size
    replace hb := hb.trans (hb4.mono hb.size)
    clear hb4
    clear hI3 hO3
    have hC := Lib.hid (least_is' hR.out)
    have h2 := hC.out.1.1
    obtain ⟨nn, pp, qq, rfl, rfl, rfl, n2, n6, hp, hq, hpq, hin, hL10⟩ := two_nat h2
    have hxl : xs'.length = nn := by have := hC.out.1.2.1; omega
    have H2 := Lib.hid h2
    have hbnd := mostV_bound h2
    have Hxl := Lib.hid hxl
    clear hxl
    go_wp2_with fail
    refine (iCutOf nn A c L pp qq _ _ xs' hL1 hx1 _ ((hL.out.below hb).more hb.size) (hO2.iv.more (Nat.zero_le _) (Nat.le_refl _))).mono ?_
    rintro e w5 ⟨t, rfl, ht, hb5⟩
    replace hO2 := hO2.below hb5
    replace hb := hb.trans (hb5.mono hb.size)
    clear hb5
    obtain rfl : t = mostV nn L pp qq := by
      rcases ht with ⟨_, e⟩ | ⟨h, _⟩
      · rw [e]; exact hC.out.2
      · exact absurd hC.out.1 h
    obtain ⟨t, ht'⟩ : ∃ t, t = mostV nn L pp qq := ⟨_, rfl⟩
    rw [← ht'] at hbnd ⊢
    have Ht := Lib.hid ht'
    have hmz := Lib.hid (rest_most hC.out.1)
    have h01 := Lib.hid hC.out.1.2.2.1
    have hstep : Hid (∀ (k : Nat) (l : Ln), L[k]? = some l → ∃ pa pb : Nat, l.a = pa ∧ l.b = pb ∧ pa < xs'.length ∧ pb < xs'.length ∧ ∃ u v : Int, xs'[pa]? = some u ∧ xs'[pb]? = some v ∧ (u = v → restTo xs' L k ++ [l] = restTo xs' L (k + 1)) ∧ (u ≠ v → restTo xs' L k = restTo xs' L (k + 1))) := fun k l hl => by
      have hl' := hin l (List.mem_of_getElem? hl)
      obtain ⟨pa, hpa⟩ := Int.eq_ofNat_of_zero_le hl'.1
      obtain ⟨pb, hpb⟩ := Int.eq_ofNat_of_zero_le hl'.2.2.1
      refine ⟨pa, pb, hpa, hpb, by rw [Hxl.out]; omega, by rw [Hxl.out]; omega, _, _, getD_int (f := xs') (k := pa) (by rw [Hxl.out]; omega), getD_int (f := xs') (k := pb) (by rw [Hxl.out]; omega), fun e => ?_, fun e => ?_⟩
      · exact rest_yes hl (by rw [hpa, hpb]; exact e)
      · exact rest_no hl (by rw [hpa, hpb]; exact e)
    have hLc := Lib.hid ((hL.out.below hb).more hb.size)
    have hXi := Lib.hid hO2.iv
    have HO2 := Lib.hid hO2
    have hLb := Lib.hid (fun (w' : World) (h : Below w1.heap.size w1 w') => ((hL.out.below h).more h.size))
    have HCO := Lib.hid (fun (ys : List Int) (hy : ys.length = nn) A' c' w hL hF => iCutOf nn A c L pp qq A' c' ys hL1 (by rw [hy]; omega) w hL hF)
    have HTM := Lib.hid (fun (M : List Ln) (hM : M.length ≤ 1048576) A' c' w hL => iTrafficMost nn A' c' M pp qq hM w hL)
    obtain ⟨m, hm⟩ : ∃ m, m = L.length := ⟨_, rfl⟩
    rw [← hm] at hL7 HCO ⊢
    have Hm := Lib.hid hm
    have hr0 : Hid (restTo xs' L 0 = []) := by show _ = _; rw [restTo]; simp
    have hrl : Hid (∀ k, (restTo xs' L k).length ≤ k) := fun k => rest_len xs' L k
    clear ht ht' hm h2 hR hO2 hL10 hL1
    go_wp2_with fail
    go_loopw [12, 13] (fun v i wr => ∃ (k r : Nat) (A' : Option Addr) (c' : Nat), k ≤ m ∧ i = .int .i64 k ∧ v = .slice A' r c' ∧ Hid (r = (restTo xs' L k).length) ∧ OwnL wr w5.heap.size (.slice A' r c') (restTo xs' L k) ∧ Below w5.heap.size w5 wr) (fun _ i _ => m - (intOf i).toNat)
    case atStart => exact ⟨0, 0, _, _, by omega, rfl, rfl, by show _ = _; rw [hr0.out]; rfl, by rw [hr0.out]; exact OwnL.lit0 w5 w5.heap.size (Nat.le_refl _), (Below.refl _ _).alloc (Nat.le_refl _) _⟩
    case round =>
      obtain ⟨k, r, A', c', hk, rfl, rfl, hr, hM, hbel⟩ := hrel
      by_cases hkm : k < m
      · obtain ⟨b, off, rfl, hbB, hc⟩ := hLc.out (by rw [← Hm.out]; omega)
        obtain ⟨l, hl⟩ : ∃ l, L[k]? = some l := ⟨L[k]'(by rw [← Hm.out]; exact hkm), List.getElem?_eq_getElem _⟩
        obtain ⟨c1, c2', c3'⟩ := hc k l hl
        obtain ⟨pa, pb, hpa, hpb, hpax, hpbx, u, v, hu, hv, heq, hneq⟩ := hstep.out k l hl
        obtain ⟨bx, ox, rfl, _, hbx, hcx⟩ := hXi.out (by rw [Hxl.out]; omega)
        have g2 := (hbel.cell (p := ⟨bx, _, none⟩) hbx).trans (hcx pa u hu)
        have g3 := (hbel.cell (p := ⟨bx, _, none⟩) hbx).trans (hcx pb v hv)
        have d1 := (hbel.cell (p := ⟨b, _, none⟩) hbB).trans c1
        have d2 := (hbel.cell (p := ⟨b, _, none⟩) hbB).trans c2'
        have d3 := (hbel.cell (p := ⟨b, _, none⟩) hbB).trans c3'
        have D1 := Lib.hid d1
        have D2 := Lib.hid d2
        rw [hpa] at d1
        rw [hpb] at d2
        have hrk : r ≤ 7 := by have := hrl.out k; have := hr.out; omega
        have hlb := Lib.hid (And.intro hpa hpb)
        clear hc hcx hu hv hl hpa hpb c1 c2' c3'
        by_cases huv : u = v
        · have t1 := bT huv
          have HE := Lib.hid (heq huv)
          clear heq hneq huv
          go_wp2_with fail
          go_quiet (fail)
          have hMq := hM.drewN nq
          have hbq := below_drewN hbel nq
          have e1 : (wr.drewN nq).cell? ⟨b, off + k * 3, none⟩ = some (.int .i64 l.a) := D1.out
          have e2 : (wr.drewN nq).cell? ⟨b, off + k * 3 + 1, none⟩ = some (.int .i64 l.b) := D2.out
          have e3 : (wr.drewN nq).cell? ⟨b, off + k * 3 + 2, none⟩ = some (.int .i64 l.c) := d3
          clear d1 d2 d3 D1 D2 g2 g3 hM hbel
          generalize wr.drewN nq = wq at hMq hbq e1 e2 e3 ⊢
          have hsq := hbq.size
          go_wp2_with (at_builtin; refine appL _ rfl _ _ rfl w5.heap.size _ (restTo xs' L k) [l] rfl (OwnL.alloc hMq _) 1 1 rfl (by simp; rw [← hr.out]; omega) ⟨wq.heap.size, 0, none⟩ rfl (by exact lit_cells wq l _ rfl) (by simp; omega) ?_; intro A9 c9 w9 ho9 hg9)
          rw [HE.out] at ho9
          have hle3 : (restTo xs' L (k + 1)).length = (restTo xs' L k).length + 1 := by rw [← HE.out]; simp
          rw [hle3] at ho9
          replace hle3 := Lib.hid hle3
          have hb9 := OwnL.grownBelow (OwnL.alloc hMq (Obj.cells #[.int .i64 l.a, .int .i64 l.b, .int .i64 l.c] 36)) hg9 (hbq.alloc hbq.size _) (Nat.le_refl _) (by simp; omega)
          go_wp2_with fail
          go_roundw
          case rel => exact ⟨k + 1, _, A9, c9, by omega, by go_num, rfl, hle3.out.symm, ho9, hb9⟩
          case measure => simp [intOf]; omega
        · have t1 := bF huv
          have HE := Lib.hid (hneq huv)
          clear heq hneq huv
          go_wp2_with fail
          go_quiet (fail)
          have hMq := hM.drewN nq
          have hbq := below_drewN hbel nq
          clear d1 d2 d3 D1 D2 g2 g3 hM hbel
          generalize wr.drewN nq = wq at hMq hbq ⊢
          go_wp2_with fail
          go_roundw
          case rel => exact ⟨k + 1, r, A', c', by omega, by go_num, rfl, by rw [← HE.out]; exact hr, by rw [← HE.out]; exact hMq, hbq⟩
          case measure => simp [intOf]; omega
      · obtain rfl : k = m := by omega
        have hrk : r ≤ 7 := by have := hrl.out k; have := hr.out; omega
        rw [show restTo xs' L k = restTo xs' L L.length by rw [← Hm.out]] at hM
        obtain ⟨M, hMM⟩ : ∃ M, M = restTo xs' L L.length := ⟨_, rfl⟩
        rw [← hMM] at hM hmz
        have hMl : M.length = r := by rw [hr.out, hMM, ← Hm.out]
        have HM := Lib.hid hM
        have HMl := Lib.hid hMl
        have HO2' := Lib.hid (HO2.out.below hbel)
        replace hb := hb.trans (hbel.mono hb.size)
        clear hbel hr hM hMM hMl hstep hr0 hrl hXi hLc
        go_wp2_with fail
        go_loopw [14] (fun i wz => ∃ k : Nat, k ≤ nn ∧ i = .int .i64 k ∧ Below wr.heap.size wr wz) (fun i _ => nn - (intOf i).toNat)
        case atStart => exact ⟨0, by omega, rfl, Below.refl _ _⟩
        case round =>
          obtain ⟨j, hj, rfl, hbz⟩ := hrel
          have hbk := hb.trans (hbz.mono hb.size)
          by_cases hjn : j < nn
          · have hoz := HO2'.out.below hbz
            have hjx : j < xs'.length := by rw [Hxl.out]; exact hjn
            obtain ⟨u, hu⟩ : ∃ u, xs'[j]? = some u := ⟨_, List.getElem?_eq_getElem hjx⟩
            have hu01 := h01.out u (List.mem_of_getElem? hu)
            have Hu := Lib.hid hu
            have HCj := Lib.hid (HCO.out (xs'.set j (1 - u)) (by rw [List.length_set]; exact Hxl.out))
            rw [List.length_set] at HCj
            clear hu
            go_upto_region 19 with (at_builtin; refine appO _ rfl _ _ rfl wr.heap.size _ [] rfl (Own.lit0 wr wr.heap.size (Nat.le_refl _)) _ A2 xs'.length c2 xs' rfl (Own.alloc hoz _) (by simp; omega) (by simp) ?_; intro A4 c4 w8 ho8 hg8)
            rw [List.nil_append] at ho8
            have hb8 := Own.grownBelow (Own.lit0 wr wr.heap.size (Nat.le_refl _)) hg8 ((Below.refl _ _).alloc (Nat.le_refl _) _) (Nat.le_refl _) (by simp)
            replace hb8 := hbz.trans (hb8.mono hbz.size)
            have hszz := hbz.size
            obtain ⟨g4, rfl, hg4B, hg4l⟩ := ho8.some (by omega)
            have hc4 := ho8.cell Hu.out
            have hf4 := ho8.frozen j
            have st := ho8.stored j (1 - u) hjx
            have hb9 := hb8.setCell (p := ⟨g4, j, none⟩) (by show _ ≤ g4; omega) (.int .i64 (1 - u))
            have Hst := Lib.hid st
            have Hbk9 := Lib.hid (hb.trans (hb9.mono hb.size))
            clear st ho8 hb8 hg8 hoz
            go_wp2_with fail
            refine (HCj.out _ c4 _ (hLb.out _ Hbk9.out) (Hst.out.iv.more (Nat.zero_le _) (Nat.le_refl _))).mono ?_
            rintro e w10 ⟨y, rfl, hy, hb10⟩
            have hyc : y = -1 ∨ t ≤ y := by
              rcases hy with ⟨h, e⟩ | ⟨_, e⟩
              · right; rw [e, Ht.out]; exact cut_ge h
              · exact .inl e
            replace hb9 := hb9.trans (hb10.mono hb9.size)
            clear hy hb10 hc4 hf4
            rcases hyc with rfl | hty
            · go_wp2_with fail
              go_roundw
              case rel => exact ⟨j + 1, by omega, by go_num, hb9⟩
              case measure => simp [intOf]; omega
            · have hy0 : 0 ≤ y := by omega
              have hny : ¬ y < t := by omega
              go_wp2_with fail
              go_roundw
              case rel => exact ⟨j + 1, by omega, by go_num, hb9⟩
              case measure => simp [intOf]; omega
          · obtain rfl : j = nn := by omega
            have HMz := Lib.hid (HM.out.below hbz).lns
            have HTj := Lib.hid (HTM.out M (by rw [HMl.out]; omega) A' c')
            rw [HMl.out] at HTj
            have ht0 : 0 ≤ t := hbnd.1
            go_wp2_with fail
            refine (HTj.out _ HMz.out).mono ?_
            rintro e w10 ⟨y, rfl, hy, hb10⟩
            obtain rfl : y = 0 := by rw [hy, hmz.out]
            replace hb := hbk.trans (hb10.mono hbk.size)
            go_wp2_with fail
            go_ret
            exact ⟨rfl, hbw.trans (hb.mono hbw.size)⟩
end Go.Proofs.Ytkcfclkpbmeaiaa
