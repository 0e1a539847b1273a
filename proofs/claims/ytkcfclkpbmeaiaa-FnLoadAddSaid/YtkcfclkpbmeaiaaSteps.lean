/- How far each station is: the reference's l7Steps, walked. -/
import Derived.Test.YtkcfclkpbmeaiaaFree
import Derived.Test.YtkcfclkpbmeaiaaRes
namespace Go.Proofs.Ytkcfclkpbmeaiaa
set_option linter.unusedVariables false
set_option linter.unusedSimpArgs false
open Go.RowKit
def nl (l : List Nat) : List Int := l.map fun x : Nat => (x : Int)
theorem nl_len (l : List Nat) : (nl l).length = l.length := by simp [nl]
theorem nl_get {l : List Nat} {i y : Nat} (h : l[i]? = some y) : (nl l)[i]? = some (y : Int) := by simp [nl, h]
theorem nl_app (l : List Nat) (y : Nat) : nl l ++ [(y : Int)] = nl (l ++ [y]) := by simp [nl]
theorem seeN_pre {L : List Ln} {f : List Int} {n to : Nat} {b : Int} {s1 s2 : List Int × List Nat} (h : More L f n to b s1 s2) {k y : Nat} (hy : s1.2[k]? = some y) : s2.2[k]? = some y := by
  obtain ⟨r, hr⟩ := h.pre
  rw [hr, List.getElem?_append_left (List.getElem?_eq_some_iff.1 hy).1]; exact hy
theorem seeN_no {L : List Ln} {f : List Int} {y a : Nat} {st : List Int × List Nat} (h : ¬ ((seeN L f y st a).1.getD a 0 < 0 ∧ 0 ≤ nxI L f a y)) : seeN L f y st (a + 1) = seeN L f y st a := by
  rw [seeN, seeA, if_neg]
  rintro ⟨h1, h2⟩
  refine h ⟨h1, ?_⟩
  rcases Int.lt_or_le (nxI L f a y) 0 with h3 | h3
  · rw [nxI_neg.1 h3] at h2; cases h2
  · exact h3
theorem seeN_yes {L : List Ln} {f : List Int} {y a : Nat} {st : List Int × List Nat} (h1 : (seeN L f y st a).1.getD a 0 < 0) (h2 : 0 ≤ nxI L f a y) :
    seeN L f y st (a + 1) = ((seeN L f y st a).1.set a ((seeN L f y st a).1.getD y 0 + 1), (seeN L f y st a).2 ++ [a]) := by
  rw [seeN, seeA, if_pos]
  refine ⟨h1, ?_⟩
  cases h3 : (nx L f a y).isSome with
  | true => rfl
  | false => have := nxI_neg.2 h3; omega
def StepsPost (n : Nat) (xs : List Int) (w : World) (e : Ending) (w' : World) : Prop := ∃ g, e = .returned (.slice (some ⟨g, 0, none⟩) n n) ∧ Row w' g 3 (ivs xs) ∧ w.heap.size ≤ g ∧ Below w.heap.size w w'
set_option maxRecDepth 100000 in
theorem sSteps (A : Option Addr) (c : Nat) (L : List Ln) (F : Option Addr) (cf : Nat) (f : List Int) (n to : Nat) (hn6 : n ≤ 6) (hto : to < n) (hin : netIn n L) (hlen : f.length = L.length) (hL1 : L.length ≤ 10) (w : World) (hL : Lns w w.heap.size A L) (hF : Iv w 0 w.heap.size F f) :
    Calls Try.prog 78 #[.int .i64 n, .slice A L.length c, .slice F f.length cf, .int .i64 to] w (StepsPost n (far L f n to) w) := by
  have HFree := Lib.hid (fun (p q : Int) w hi lo hi2 hL hF => sFree A c L F cf f n hin hlen hL1 p q w hi lo hi2 hL hF)
  obtain ⟨m, hm⟩ : ∃ m, m = L.length := ⟨_, rfl⟩
  rw [hlen] at HFree ⊢
  rw [← hm] at hL1 hlen HFree ⊢
  clear hm hlen
  have hmk := fun w => mk_row (P := Try.prog) 24 3 (.int .i64 0) 8 Try.underlying24 intInfo rfl (n : Int) n rfl (by omega) (by omega) w
  have hrow0 : Hid (∀ w : World, Row (w.alloc (Obj.cells (madeCells #[.int .i64 0] n) 3)) w.heap.size 3 (ivs (List.replicate n 0))) := fun w => by
    refine Row.newS _ 3 _ rfl ?_
    rw [madeCells_toList', ivs_zero]
  go_enter Try.func78, Try.ntmps78
  go_wp2_with fail
  go_loopw [10] (fun i wr => ∃ (k : Nat) (M : List Int), k ≤ n ∧ i = .int .i64 k ∧ Hid (M.length = n ∧ ∀ j, j < k → M[j]? = some (-1)) ∧ Row wr w.heap.size 3 (ivs M) ∧ Below w.heap.size w wr ∧ wr.heap.size = w.heap.size + 1) (fun i _ => n - (intOf i).toNat)
  case atStart => exact ⟨0, List.replicate n 0, by omega, rfl, ⟨by simp, fun j hj => by omega⟩, hrow0.out w, (Below.refl _ _).alloc (Nat.le_refl _) _, by simp⟩
  case round =>
    obtain ⟨k, M, hk, rfl, hM, hr, hbel, hsz⟩ := hrel
    by_cases hlt : k < n
    · obtain ⟨x, hx⟩ : ∃ x, M[k]? = some x := ⟨M[k]'(by rw [hM.out.1]; exact hlt), List.getElem?_eq_getElem _⟩
      have e1 := hr.cellI (ivs_get hx)
      have f1 := hr.frozen k
      replace hsz := Lib.hid hsz
      clear hx
      go_wp2_with fail
      go_roundw
      case rel => exact ⟨k + 1, M.set k (-1), by omega, by go_num, ⟨by rw [List.length_set]; exact hM.out.1, fun j hj => by
        rcases (by omega : j < k ∨ j = k) with h | rfl
        · rw [List.getElem?_set_ne (by omega)]; exact hM.out.2 j h
        · rw [List.getElem?_set_self (by rw [hM.out.1]; exact hlt)]⟩, (hr.set _ _).eq (ivs_set M k (-1)), hbel.setCell (by simp) _, by simp; exact hsz.out⟩
      case measure => simp [intOf]; omega
    · obtain rfl : k = n := by omega
      have hMr : M = List.replicate k (-1) := by
        apply List.ext_getElem?
        intro j
        rcases Nat.lt_or_ge j k with h | h
        · rw [hM.out.2 j h, List.getElem?_replicate, if_pos h]
        · rw [List.getElem?_eq_none (by rw [hM.out.1]; exact h), List.getElem?_eq_none (by simpa using h)]
      subst hMr
      clear hM
      have e1 := hr.cellI (ivs_get (x := -1) (by rw [List.getElem?_replicate, if_pos hto]))
      have f1 := hr.frozen to
      replace hsz := Lib.hid hsz
      have hr0 := (hr.set to (.int .i64 0)).eq (ivs_set (List.replicate k (-1)) to 0)
      have hb0 : Below w.heap.size w (wr.setCell ⟨w.heap.size, to, none⟩ (.int .i64 0)) := hbel.setCell (by simp) _
      have hb1 := Lib.hid hbel
      clear hr hbel
      obtain ⟨R, hR⟩ : ∃ R, R = bfs L f k k 0 (start k to) := ⟨_, rfl⟩
      have HR : Hid (far L f k to = R.1) := by show _ = _; rw [hR]; rfl
      replace hR := Lib.hid hR
      go_wp2_with fail
      clear e1 f1
      go_loopw [11, 12, 13, 14, 15, 42] (fun v i _ _ _ _ wi => ∃ (j : Nat) (st : List Int × List Nat) (A' : Option Addr) (c' : Nat), i = .int .i64 j ∧ v = .slice A' st.2.length c' ∧ Own wi (w.heap.size + 1) (.slice A' st.2.length c') (nl st.2) ∧ Row wi w.heap.size 3 (ivs st.1) ∧ Hid (bfs L f k (k - j) j st = R ∧ Inv L f k to (j : Int) st ∧ Asked L f k j st ∧ j ≤ st.2.length) ∧ Below w.heap.size w wi ∧ w.heap.size + 1 ≤ wi.heap.size) (fun _ i _ _ _ _ _ => k - (intOf i).toNat)
      case atStart =>
        refine ⟨0, start k to, _, _, rfl, rfl, ?_, ?_, ⟨hR.out.symm, start_inv hto, fun i hi => absurd hi (by omega), by omega⟩, (by first | exact hb0.alloc hb0.size _ | exact (hb1.out.alloc hb1.out.size _).setCell (by simp) _), by simp; rw [hsz.out]; omega⟩
        · exact Row.own (xs := [(to : Int)]) (Row.newS _ 3 _ (by simp) rfl) (by rw [hsz.out]; exact Nat.le_refl _) (by unfold maxLen; simp)
        · exact hr0.alloc _
      case round =>
        obtain ⟨j, st, A', c', rfl, rfl, hown, hr, hst, hbel, hsz⟩ := hrel
        have hle := hst.out.2.1.le
        have hjl := hst.out.2.2.2
        by_cases hj : j < st.2.length
        · obtain ⟨y, hy⟩ : ∃ y, st.2[j]? = some y := ⟨st.2[j], List.getElem?_eq_getElem hj⟩
          have hyk := hst.out.2.1.lt y (List.mem_of_getElem? hy)
          have hjk : j < k := by omega
          have hyb := hst.out.2.1.bound y
          have HM : Hid (∀ a, a ≤ k → More L f k to ((j + 1 : Nat) : Int) st (seeN L f y st a)) := fun a ha => (seeN_more (hst.out.2.1.more (b' := ((j + 1 : Nat) : Int)) (by omega)) (List.mem_of_getElem? hy) (by omega) a ha).1
          have HN : Hid (bfs L f k (k - (j + 1)) (j + 1) (seeN L f y st k) = R ∧ Inv L f k to ((j + 1 : Nat) : Int) (seeN L f y st k) ∧ Asked L f k (j + 1) (seeN L f y st k) ∧ j + 1 ≤ (seeN L f y st k).2.length) := by
            have h2 := asked_next hst.out.2.1 hst.out.2.2.1 hy
            refine ⟨?_, h2.1, h2.2.1, h2.2.2⟩
            have h3 := hst.out.1
            rw [show k - j = (k - (j + 1)) + 1 by omega, bfs, hy] at h3
            exact h3
          have Hy := Lib.hid hy
          clear hy hyb hst
          go_wp2_with fail
          obtain ⟨wo2, hwo2⟩ : ∃ wo2 : World, wo2 = wr := ⟨_, rfl⟩
          rw [← hwo2] at hown hr hbel hsz ⊢
          clear hwo2
          go_loopw [11, 13, 14, 15, 42] (fun v i _ _ _ wi => ∃ (a : Nat) (A' : Option Addr) (c' : Nat), a ≤ k ∧ i = .int .i64 a ∧ v = .slice A' (seeN L f y st a).2.length c' ∧ Own wi (w.heap.size + 1) (.slice A' (seeN L f y st a).2.length c') (nl (seeN L f y st a).2) ∧ Row wi w.heap.size 3 (ivs (seeN L f y st a).1) ∧ Below w.heap.size w wi ∧ w.heap.size + 1 ≤ wi.heap.size) (fun _ i _ _ _ _ => k - (intOf i).toNat)
          case atStart => exact ⟨0, A', c', by omega, rfl, rfl, hown, hr, hbel, hsz⟩
          case round =>
            obtain ⟨a, A', c', ha, rfl, rfl, hown, hr, hbel, hsz⟩ := hrel
            by_cases hak : a < k
            · have hmore := HM.out a ha
              have hyn := seeN_pre hmore Hy.out
              have hinv := hmore.inv
              have hlen := hinv.len
              have hle2 := hinv.le
              obtain ⟨g, hg, hgB, hgl⟩ := hown.some (by rw [nl_len]; have := (List.getElem?_eq_some_iff.1 hyn).1; omega)
              subst hg
              have cy := hown.cell (nl_get hyn)
              have hno := seeN_no (L := L) (f := f) (y := y) (a := a) (st := st)
              have hyes := seeN_yes (L := L) (f := f) (y := y) (a := a) (st := st)
              have ca := hr.cellI (ivs_get (getD_int (by rw [hlen]; exact hak)))
              have cv := hr.cellI (ivs_get (getD_int (by rw [hlen]; exact hyk)))
              have hvb1 := hinv.bound y
              have hvb2 := hinv.low y
              have fa := hr.frozen a
              have hjl2 := (List.getElem?_eq_some_iff.1 hyn).1
              obtain ⟨s2, hs2⟩ : ∃ s, s = seeN L f y st a := ⟨_, rfl⟩
              rw [← hs2] at hno hyes ca cv hvb1 hvb2 hown hr hlen hle2 hjl2 ⊢
              obtain ⟨x, hx⟩ : ∃ x, x = s2.1.getD a 0 := ⟨_, rfl⟩
              obtain ⟨v, hv⟩ : ∃ x, x = s2.1.getD y 0 := ⟨_, rfl⟩
              rw [← hx] at hno hyes ca
              rw [← hv] at hyes cv hvb1 hvb2
              obtain ⟨z, hz⟩ : ∃ z, z = nxI L f a y := ⟨_, rfl⟩
              have hfree := HFree.out a y wr wr.heap.size 0 wr.heap.size ((hL.below hbel).more hbel.size) ((hF.below hbel (Nat.le_refl _)).more (Nat.le_refl _) hbel.size)
              unfold FreePost at hfree
              rw [← hz] at hno hyes hfree
              obtain ⟨sgn, hsgn⟩ : ∃ z, z = nxS L f a y := ⟨_, rfl⟩
              rw [← hsgn] at hfree
              obtain ⟨ll, hll⟩ : ∃ z, z = s2.2.length := ⟨_, rfl⟩
              rw [← hll] at hown hle2 hjl2 ⊢
              replace hno := Lib.hid hno
              replace hyes := Lib.hid hyes
              replace hfree := Lib.hid hfree
              have Hlen := Lib.hid hlen
              have Hll := Lib.hid hll
              clear hs2 hx hv hz hsgn hmore hyn hinv hlen hll
              go_wp2_with fail
              refine hfree.out.mono ?_
              rintro e w5 ⟨d, rfl, rfl⟩
              have hown5 : Own (wr.drewN d) (w.heap.size + 1) (.slice (some ⟨g, 0, none⟩) ll c') (nl s2.2) := hown
              have hr5 := hr.drewN d
              have hbel5 := below_drewN hbel d
              have hsz5 : w.heap.size + 1 ≤ (wr.drewN d).heap.size := hsz
              have hgl5 : g < (wr.drewN d).heap.size := hgl
              have ca5 : (wr.drewN d).cell? ⟨w.heap.size, a, none⟩ = some (.int .i64 x) := ca
              have cv5 : (wr.drewN d).cell? ⟨w.heap.size, y, none⟩ = some (.int .i64 v) := cv
              have cy5 : (wr.drewN d).cell? ⟨g, j, none⟩ = some (.int .i64 y) := cy
              have fa5 : (wr.drewN d).frozen? ⟨w.heap.size, a, none⟩ = false := fa
              clear hown hr hbel hsz hgl ca cv cy fa hfree
              generalize wr.drewN d = w6 at *
              by_cases hx0 : x < 0
              · by_cases hz0 : 0 ≤ z
                · have hye := Lib.hid (hyes.out hx0 hz0)
                  have hge : g ≠ w.heap.size := by omega
                  go_wp2_with (at_builtin; go_loud (refine app1 _ rfl _ _ rfl (w.heap.size + 1) _ _ rfl (Own.alloc (Own.setBelow (p := ⟨w.heap.size, a, none⟩) hown5 (Nat.lt_succ_self _) (.int .i64 (v + 1))) (Obj.cells #[.int .i64 (a : Int)] 3)) ll (by rw [nl_len]; exact Hll.out.symm) ⟨w6.heap.size, 0, none⟩ (a : Int) rfl (alloc1_cell (size_set _ _ _).symm) (by omega) (by rw [size_set_alloc]; omega) ?_); intro A3 c3 w7 hown7 hgr7)
                  have hr7 := ((hr5.set a (.int .i64 (v + 1))).alloc (Obj.cells #[.int .i64 (a : Int)] 3)).grown hgr7 (fun h => by injection h with h; exact hge h.symm)
                  have hb6 : Below w.heap.size w ((w6.setCell ⟨w.heap.size, a, none⟩ (.int .i64 (v + 1))).alloc (Obj.cells #[.int .i64 (a : Int)] 3)) := (hbel5.setCell (by simp) _).alloc (by simp; omega) _
                  have hb7 : Below w.heap.size w w7 := hb6.grown hgr7 (by simp; omega) (fun q hq => by injection hq with hq; simp at hq; omega)
                  have hsz7 := hgr7.size
                  rw [ivs_set] at hr7
                  rw [nl_app] at hown7
                  clear hgr7 hb6
                  go_wp2_with fail
                  go_roundw
                  case rel => exact ⟨a + 1, A3, c3, by omega, by go_num, by rw [hye.out]; simp only [List.length_append, List.length_singleton]; rw [← Hll.out], by rw [hye.out]; simp only [List.length_append, List.length_singleton]; rw [← Hll.out]; exact hown7, by rw [hye.out]; exact hr7, hb7, by simp at hsz7; omega⟩
                  case measure => simp [intOf]; omega
                · have hz0' : z < 0 := by omega
                  have hn := Lib.hid (hno.out (fun h => by omega))
                  clear hz0
                  go_wp2_with fail
                  go_roundw
                  case rel => exact ⟨a + 1, _, c', by omega, by go_num, by rw [hn.out, Hll.out], by rw [hn.out, ← Hll.out]; exact hown5, by rw [hn.out]; exact hr5, hbel5, hsz5⟩
                  case measure => simp [intOf]; omega
              · have hx0' : 0 ≤ x := by omega
                have hn := Lib.hid (hno.out (fun h => by omega))
                clear hx0
                go_wp2_with fail
                go_roundw
                case rel => exact ⟨a + 1, _, c', by omega, by go_num, by rw [hn.out, Hll.out], by rw [hn.out, ← Hll.out]; exact hown5, by rw [hn.out]; exact hr5, hbel5, hsz5⟩
                case measure => simp [intOf]; omega
            · obtain rfl : a = k := by omega
              go_wp2_with fail
              go_roundw
              case rel => exact ⟨j + 1, seeN L f y st a, A', c', by go_num, rfl, hown, hr, HN.out, hbel, hsz⟩
              case measure => simp [intOf]; omega
        · have hjj : j = st.2.length := by omega
          have hend : st = R := by
            rw [← hst.out.1]
            cases hkj : k - j with
            | zero => rw [bfs]
            | succ z => rw [bfs, List.getElem?_eq_none (by omega)]
          subst hend
          go_wp2_with fail
          go_ret
          exact ⟨w.heap.size, rfl, by rw [HR.out]; exact hr, Nat.le_refl _, hbel⟩
end Go.Proofs.Ytkcfclkpbmeaiaa
