/- The program's far, walked. -/
import Derived.Test.YtkcfclkpbmeaiaaFar
namespace Go.Proofs.Ytkcfclkpbmeaiaa
set_option linter.unusedVariables false
set_option linter.unusedSimpArgs false
open Go.RowKit
theorem nl_drop (l : List Nat) (j : Nat) : nl (l.drop j) = (nl l).drop j := by simp [nl, List.map_drop]
theorem drop_get {l : List Nat} {j y : Nat} (h : l[j]? = some y) : (nl (l.drop j))[0]? = some (y : Int) := by
  apply nl_get; rw [List.getElem?_drop]; exact h
theorem drop_tail (l : List Nat) (j : Nat) : (nl (l.drop j)).tail = nl (l.drop (j + 1)) := by
  rw [nl_drop, nl_drop, List.tail_drop]
theorem drop_app (l : List Nat) (j a : Nat) (h : j ≤ l.length) : nl (l.drop j) ++ [(a : Int)] = nl ((l ++ [a]).drop j) := by
  rw [List.drop_append_of_le_length h, nl_app]
theorem nl_drop_len (l : List Nat) (j : Nat) : (nl (l.drop j)).length = l.length - j := by simp [nl]
set_option maxRecDepth 100000 in
theorem iFar (C B n to : Nat) (A : Option Addr) (cap : Nat) (L : List Ln) (f : List Int) (c : Nat) (hn1 : 1 ≤ n) (hn6 : n ≤ 6) (hto : to < n) (hin : netIn n L) (hlen : f.length = L.length) (hcaps : caps L f) (hL1 : L.length ≤ 10) (w : World) (hi : Nat) (hhi : hi ≤ w.heap.size) (hL : Lns w hi A L) (hcar : Car w C B n A L.length cap f c) :
    Calls Try.prog 81 #[.pointer (some ⟨C, 0, none⟩), .int .i64 to] w (StepsPost n (far L f n to) w) := by
  have HNx := Lib.hid (fun (p q : Int) w hi hhi hL hcar => iNext C B n A cap L f c n hin hlen hcaps hL1 p q w hi hhi hL hcar)
  have HRp := Lib.hid (fun h w hc hh => repeat_1 h n hn1 hn6 w hc hh)
  have HCar := Lib.hid hcar
  have HLns := Lib.hid (fun (W : World) (hb : Below w.heap.size w W) => (hL.more hhi).below hb)
  have c0 := hcar.c0
  have hClt := hcar.lt
  clear hcar
  go_enter Try.func81, Try.ntmps81
  go_wp2_with fail
  refine (HRp.out _ _ (by simp) (by simp)).mono ?_
  rintro e w1 ⟨G, rfl, hr1, hG, hb1⟩
  have hbel1 : Below w.heap.size w w1 := ((Below.refl _ _).alloc (Nat.le_refl _) _).trans (hb1.mono (by simp))
  have hGlt := hr1.lt
  have hGw : w.heap.size ≤ G := by simp at hG; omega
  have e1 := hr1.cellI (ivs_get (x := -1) (i := to) (by rw [List.getElem?_replicate, if_pos hto]))
  have f1 := hr1.frozen to
  have hr2 := (hr1.set to (.int .i64 0)).eq (ivs_set (List.replicate n (-1)) to 0)
  clear hb1 hG
  obtain ⟨R, hR⟩ : ∃ R, R = bfs L f n n 0 (start n to) := ⟨_, rfl⟩
  have HR : Hid (far L f n to = R.1) := by show _ = _; rw [hR]; rfl
  replace hR := Lib.hid hR
  obtain ⟨B0, hB0⟩ : ∃ B0, B0 = w1.heap.size := ⟨_, rfl⟩
  have hGB : G < B0 := by omega
  have hwB : w.heap.size ≤ B0 := by rw [hB0]; exact hbel1.size
  have HB0 := Lib.hid hB0
  clear hB0 hr1
  go_wp2_with fail
  go_loopg [6] n (fun k s wr => ∃ (j : Nat) (st : List Int × List Nat) (g off cp ln : Nat), k = n - j ∧ s = .slice (some ⟨g, off, none⟩) ln cp ∧ Hid (ln = st.2.length - j) ∧ Que wr B0 g off cp (nl (st.2.drop j)) ∧ Row wr G 3 (ivs st.1) ∧ Hid (bfs L f n (n - j) j st = R ∧ Inv L f n to (j : Int) st ∧ Asked L f n j st ∧ j ≤ st.2.length) ∧ Below w.heap.size w wr ∧ B0 ≤ wr.heap.size)
  case atStart =>
    refine ⟨0, start n to, _, _, _, 1, by omega, rfl, rfl, Que.one _ B0 _ (by simp) (by rw [← HB0.out]; exact Nat.le_refl _) _, hr2.alloc _, ⟨hR.out.symm, start_inv hto, fun i hi => absurd hi (by omega), by omega⟩, (hbel1.setCell hGw _).alloc (by simp; exact hbel1.size) _, by rw [HB0.out]; simp⟩
  case round =>
    obtain ⟨j, st, g, off, cp, ln, hk, rfl, hln, hq, hr, hst, hbel, hsz⟩ := hrel
    have hle := hst.out.2.1.le
    have hjl := hst.out.2.2.2
    have hln' := hln.out
    have hlen' : ln ≤ n := by omega
    by_cases hj : j < st.2.length
    · have hln0 : 0 < ln := by omega
      obtain ⟨y, hy⟩ : ∃ y, st.2[j]? = some y := ⟨st.2[j], List.getElem?_eq_getElem hj⟩
      have hyk := hst.out.2.1.lt y (List.mem_of_getElem? hy)
      have hyb := hst.out.2.1.bound y
      have HM : Hid (∀ a, a ≤ n → More L f n to ((j + 1 : Nat) : Int) st (seeN L f y st a)) := fun a ha => (seeN_more (hst.out.2.1.more (b' := ((j + 1 : Nat) : Int)) (by omega)) (List.mem_of_getElem? hy) (by omega) a ha).1
      have HN : Hid (bfs L f n (n - (j + 1)) (j + 1) (seeN L f y st n) = R ∧ Inv L f n to ((j + 1 : Nat) : Int) (seeN L f y st n) ∧ Asked L f n (j + 1) (seeN L f y st n) ∧ j + 1 ≤ (seeN L f y st n).2.length) := by
        have h2 := asked_next hst.out.2.1 hst.out.2.2.1 hy
        refine ⟨?_, h2.1, h2.2.1, h2.2.2⟩
        have h3 := hst.out.1
        rw [show n - j = (n - (j + 1)) + 1 by omega, bfs, hy] at h3
        exact h3
      have cy := hq.cell (drop_get hy)
      rw [Nat.add_zero] at cy
      obtain ⟨o', ho', hq'⟩ := hq.tail (by rw [nl_drop_len]; omega)
      rw [drop_tail] at hq'
      have hfit := hq.fit
      rw [nl_drop_len] at hfit
      have hcp1 : 1 ≤ cp := by omega
      have hlncp : ln ≤ cp := by omega
      have hcpm := hq.max
      unfold maxLen at hcpm
      have hcar := HCar.out.all hbel
      have cn := hcar.c0
      have hjn : j < n := by omega
      have Hy := Lib.hid hy
      have Hlny : Hid (ln - 1 = st.2.length - (j + 1)) := by show _ = _; omega
      clear hy hyb hst hq hcar hln' hfit
      go_wp2_with fail
      obtain ⟨wo2, hwo2⟩ : ∃ wo2 : World, wo2 = wr := ⟨_, rfl⟩
      rw [← hwo2] at hq' hr hbel hsz ⊢
      clear hwo2 cy cn
      go_loopw [6, 8, 32] (fun s6 _ i wi => ∃ (a g off cp ln : Nat), a ≤ n ∧ i = .int .i64 a ∧ s6 = .slice (some ⟨g, off, none⟩) ln cp ∧ Hid (ln = (seeN L f y st a).2.length - (j + 1)) ∧ Que wi B0 g off cp (nl ((seeN L f y st a).2.drop (j + 1))) ∧ Row wi G 3 (ivs (seeN L f y st a).1) ∧ Below w.heap.size w wi ∧ B0 ≤ wi.heap.size) (fun _ _ i _ => n - (intOf i).toNat)
      case atStart => exact ⟨0, g, o', cp - 1, ln - 1, by omega, rfl, rfl, Hlny, hq', hr, hbel, hsz⟩
      case round =>
        clear hq' hr hbel hsz ho'
        obtain ⟨a, g, off, cp, ln, ha, rfl, rfl, hln, hq, hr, hbel, hsz⟩ := hrel
        by_cases hak : a < n
        · have hmore := HM.out a ha
          have hinv := hmore.inv
          have hlen := hinv.len
          have hle2 := hinv.le
          have hno := seeN_no (L := L) (f := f) (y := y) (a := a) (st := st)
          have hyes := seeN_yes (L := L) (f := f) (y := y) (a := a) (st := st)
          have ca := hr.cellI (ivs_get (getD_int (by rw [hlen]; exact hak)))
          have cv := hr.cellI (ivs_get (getD_int (by rw [hlen]; exact hyk)))
          have hvb1 := hinv.bound y
          have hvb2 := hinv.low y
          have fa := hr.frozen a
          have hjl2 := (List.getElem?_eq_some_iff.1 (seeN_pre hmore Hy.out)).1
          have hgB := hq.le
          have hfit := hq.fit
          have hmax := hq.max
          unfold maxLen at hmax
          obtain ⟨s2, hs2⟩ : ∃ s, s = seeN L f y st a := ⟨_, rfl⟩
          rw [← hs2] at hno hyes ca cv hvb1 hvb2 hq hr hlen hle2 hjl2 hln hfit
          obtain ⟨x, hx⟩ : ∃ x, x = s2.1.getD a 0 := ⟨_, rfl⟩
          obtain ⟨v, hv⟩ : ∃ x, x = s2.1.getD y 0 := ⟨_, rfl⟩
          rw [← hx] at hno hyes ca
          rw [← hv] at hyes cv hvb1 hvb2
          obtain ⟨z, hz⟩ : ∃ z, z = nxI L f a y := ⟨_, rfl⟩
          have hcar := HCar.out.all hbel
          have hnext := HNx.out (a : Int) (y : Int) wr wr.heap.size (Nat.le_refl _) ((HLns.out wr hbel).more hbel.size) hcar
          rw [← hz] at hno hyes hnext
          have hln2 := hln.out
          rw [nl_drop_len] at hfit
          obtain ⟨ll, hll⟩ : ∃ z, z = s2.2.length := ⟨_, rfl⟩
          rw [← hll] at hle2 hjl2 hln2 hfit
          replace hno := Lib.hid hno
          replace hyes := Lib.hid hyes
          replace hnext := Lib.hid hnext
          have Hlen := Lib.hid hlen
          have Hll := Lib.hid hll
          have hlnb : ln ≤ n := by omega
          have Hnl : Hid ((nl (s2.2.drop (j + 1))).length = ln) := by show _ = _; rw [nl_drop_len]; omega
          have Hln2 := Lib.hid hln2
          have Hjl2 := Lib.hid hjl2
          have hgG : g ≠ G := by omega
          clear hs2 hx hv hz hmore hinv hlen hll hcar hln hln2 hle2 hfit hjl2
          by_cases hx0 : x < 0
          · go_wp2_with fail
            refine hnext.out.mono ?_
            rintro e w5 ⟨rfl, hb5⟩
            have hq5 := hq.below hb5
            have hr5 := hr.below hb5 hr.lt
            have hbel5 := hbel.trans (hb5.mono hbel.size)
            have hsz5 := Nat.le_trans hsz hb5.size
            have hGl := hr5.lt
            have hgl5 := hq5.lt
            have ca5 := (hb5.cell (p := ⟨G, a, none⟩) hr.lt).trans ca
            have cv5 := (hb5.cell (p := ⟨G, y, none⟩) hr.lt).trans cv
            have fa5 := hr5.frozen a
            clear hq hr hbel hsz ca cv fa hnext hb5
            by_cases hz0 : 0 ≤ z
            · have hye := Lib.hid (hyes.out hx0 hz0)
              go_wp2_with (at_builtin; go_loud (refine appQ _ rfl _ _ rfl B0 g off cp ln _ rfl (Que.alloc (Que.far (p := ⟨G, a, none⟩) hq5 hgG (.int .i64 (v + 1))) (Obj.cells #[.int .i64 (a : Int)] 3)) Hnl.out ⟨w5.heap.size, 0, none⟩ (a : Int) rfl (alloc1_cell (size_set _ _ _).symm) (by omega) (by rw [size_set_alloc]; omega) ?_); intro g3 o3 c3 w7 hq7 hgr7)
              rw [drop_app _ _ _ (by have := Hjl2.out; have := Hll.out; omega)] at hq7
              have hr7 := ((hr5.set a (.int .i64 (v + 1))).alloc (Obj.cells #[.int .i64 (a : Int)] 3)).grown hgr7 (fun h => by injection h with h; exact hgG h.symm)
              rw [ivs_set] at hr7
              have hb6 : Below w.heap.size w ((w5.setCell ⟨G, a, none⟩ (.int .i64 (v + 1))).alloc (Obj.cells #[.int .i64 (a : Int)] 3)) := (hbel5.setCell hGw _).alloc (by rw [size_set]; exact hbel5.size) _
              have hb7 : Below w.heap.size w w7 := hb6.grown hgr7 (by rw [size_set_alloc]; have := hbel5.size; omega) (fun q hq => by injection hq with hq; omega)
              have hsz7 := hgr7.size
              rw [size_set_alloc] at hsz7
              have hsz8 : B0 ≤ w7.heap.size := by omega
              clear hgr7 hb6 hq5 hr5 hbel5 hsz5 ca5 cv5 fa5 hsz7
              go_wp2_with fail
              go_roundw
              case rel => exact ⟨a + 1, g3, o3, c3, ln + 1, by omega, by go_num, rfl, by rw [hye.out]; show _ = _; simp only [List.length_append, List.length_singleton]; have := Hln2.out; have := Hjl2.out; have := Hll.out; omega, by rw [hye.out]; exact hq7, by rw [hye.out]; exact hr7, hb7, hsz8⟩
              case measure => simp [intOf]; omega
            · have hz0' : z < 0 := by omega
              have hn := Lib.hid (hno.out (fun h => by omega))
              clear hz0
              go_wp2_with fail
              go_roundw
              case rel => exact ⟨a + 1, g, off, cp, ln, by omega, by go_num, rfl, by rw [hn.out]; rw [Hll.out] at Hln2; exact Hln2, by rw [hn.out]; exact hq5, by rw [hn.out]; exact hr5, hbel5, hsz5⟩
              case measure => simp [intOf]; omega
          · have hx0' : 0 ≤ x := by omega
            have hn := Lib.hid (hno.out (fun h => by omega))
            clear hx0
            go_wp2_with fail
            go_roundw
            case rel => exact ⟨a + 1, g, off, cp, ln, by omega, by go_num, rfl, by rw [hn.out]; rw [Hll.out] at Hln2; exact Hln2, by rw [hn.out]; exact hq, by rw [hn.out]; exact hr, hbel, hsz⟩
            case measure => simp [intOf]; omega
        · obtain rfl : a = n := by omega
          go_wp2_with fail
          go_roundg (a - (j + 1))
          case rel => exact ⟨j + 1, seeN L f y st a, g, off, cp, ln, rfl, rfl, hln, hq, hr, HN.out, hbel, hsz⟩
          case measure => omega
    · have hjj : j = st.2.length := by omega
      have hend : st = R := by
        rw [← hst.out.1]
        cases hkj : n - j with
        | zero => rw [bfs]
        | succ z => rw [bfs, List.getElem?_eq_none (by omega)]
      have hr' : Row wr G 3 (ivs (far L f n to)) := by rw [HR.out, ← hend]; exact hr
      obtain rfl : ln = 0 := by omega
      have cp1 := hq.max
      unfold maxLen at cp1
      clear hend hjj hst hr HR hR hle hjl hln' hln hlen' hj hq e1 f1 hr2 HNx HRp HCar HLns hcaps hin hL c0
      go_wp2_with fail
      go_ret
      exact ⟨G, rfl, hr', hGw, hbel⟩
end Go.Proofs.Ytkcfclkpbmeaiaa
