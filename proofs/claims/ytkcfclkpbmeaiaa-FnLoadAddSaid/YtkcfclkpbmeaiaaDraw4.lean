/- What the laws draw: two loads. -/
import Derived.Test.YtkcfclkpbmeaiaaDraw3
namespace Go.Proofs.Ytkcfclkpbmeaiaa
set_option linter.unusedVariables false
set_option linter.unusedSimpArgs false
open Go.RowKit
set_option maxRecDepth 100000 in
theorem drawLoadAdd (A : Option Addr) (n c : Nat) (hnc : n ≤ c) (hc : c ≤ maxLen) (w : World) (h : Byt w w.heap.size A n) :
    Calls Try.prog 26 #[.slice A n c] w (Ad2Post w) := by
  have hopen := Lib.hid (open_any A n c hnc hc w h)
  clear h hnc hc
  go_enter Try.func26, Try.ntmps26
  go_wp2_with fail
  refine hopen.out.mono ?_
  rintro e w1 ⟨g, rfl, hr1, hb1⟩
  have hgB : w.heap.size ≤ g := by obtain ⟨_, _, _, _, h2, _⟩ := hr1; exact h2
  have hgl := hr1.lt
  go_wp2_with fail
  refine (dLoad _ g 0 (by omega) _ hr1).mono ?_
  rintro e w2 ⟨ni, A', c', p0, L, a, b, F, cf, f, rfl, hn2, hn5, hL7, ha0, ha5, hb0, hb5, ho, hof, hf7, hr, hp0, hg⟩
  have hs2 := hg.size
  have hB1 := hb1.size
  have hmk := fun w => mk_row (P := Try.prog) 24 3 (.int .i64 0) 8 Try.underlying24 intInfo rfl (L.length : Int) L.length rfl (by omega) (by omega) w
  have hmade := made_own w2 w2.heap.size L.length (Nat.le_refl _) (by omega)
  rw [List.length_replicate] at hmade
  have Ho := Lib.hid ho
  have Hof := Lib.hid hof
  have Hret : Hid (∀ w3 G cg (s : List Int) H ch (t : List Int), s.length ≤ 7 → t.length ≤ 7 → OwnL w3 w1.heap.size (.slice A' L.length c') L → Own w3 w1.heap.size (.slice G s.length cg) s → Own w3 w1.heap.size (.slice H t.length ch) t → w1.grownBy w3 (some g) → Ad2Post w (.returned (.tuple #[.int .i64 ni, .slice A' L.length c', .int .i64 a, .int .i64 b, .slice G s.length cg, .slice H t.length ch])) w3) := fun w3 G cg s H ch t hs ht ho3 hos hot hg3 =>
    ⟨ni, A', c', L, a, b, G, cg, s, H, ch, t, rfl, hn2, hn5, hL7, ha0, ha5, hb0, hb5, ho3.more hB1, hos.more hB1, hs, hot.more hB1, ht, below_grown2 hb1 hg3 hgB hB1⟩
  go_wp2_with fail
  refine (pick_any w.heap.size g p0 3 (by omega) (by omega) _ (hr.alloc _) (by omega)).mono ?_
  rintro e w4 ⟨x, rfl, _, hr4, hg4⟩
  have hm4 := hmade.kept hg4 (fun j hj => by injection hj with hj; omega)
  have ho4 := (OwnL.alloc ho _).kept hg4 (fun j hj => by injection hj with hj; omega)
  have hof4 := (Own.alloc hof _).kept hg4 (fun j hj => by injection hj with hj; omega)
  have hs4 := hg4.size
  replace hg4 := grown_trans (grown_alloc hg _) hg4
  have hLc := Lib.hid ho4.lns
  clear ho hof hr hg hmade hr1 hb1 hopen
  obtain ⟨m, hm⟩ : ∃ m, m = L.length := ⟨_, rfl⟩
  rw [← hm] at hm4 ho4 hL7 hmk Ho Hret ⊢
  have Hm := Lib.hid hm
  clear hm
  have hsz : w2.heap.size < w4.heap.size := by simp at hs4; omega
  by_cases hx : 0 < x
  · go_wp2_with fail
    go_loopw [15] (fun i wr => ∃ (k : Nat) (xs : List Int), k ≤ m ∧ i = .int .i64 k ∧ Hid (xs.length = m) ∧ Own wr w2.heap.size (.slice (some ⟨w2.heap.size, 0, none⟩) m m) xs ∧ w4.grownBy wr (some w2.heap.size)) (fun i _ => m - (intOf i).toNat)
    case atStart => exact ⟨0, List.replicate m 0, by omega, rfl, List.length_replicate, hm4, grown_refl _ _⟩
    case round =>
      clear hm4
      obtain ⟨k, xs, hk, rfl, hxl, hown, hgr⟩ := hrel
      by_cases hkm : k < m
      · obtain ⟨bL, off, rfl, hbL, hcc⟩ := hLc.out (by rw [← Hm.out]; omega)
        obtain ⟨l, hl⟩ : ∃ l, L[k]? = some l := ⟨L[k]'(by rw [← Hm.out]; exact hkm), List.getElem?_eq_getElem _⟩
        have hne : bL ≠ w2.heap.size := by
          rcases Ho.out.spot with e | ⟨j, e, _, hj⟩
          · cases e
          · injection e with e; injection e with e; omega
        obtain ⟨c1, c2', c3'⟩ := hcc k l hl
        have d1 := hgr.cell c1 (by simp; omega)
        have d2 := hgr.cell c2' (by simp; omega)
        have hkx : k < xs.length := by rw [hxl.out]; exact hkm
        have hf := hown.frozen k
        obtain ⟨u, hu⟩ : ∃ u, wr.cell? ⟨w2.heap.size, k, none⟩ = some u := ⟨_, hown.cell (List.getElem?_eq_getElem hkx)⟩
        have st := hown.stored k 1 hkx
        have hgs := grown_trans hgr (grown_set wr w2.heap.size k (.int .i64 1))
        have hbw : bL < wr.heap.size := Nat.lt_of_lt_of_le hbL hgr.size
        have hww : w2.heap.size < wr.heap.size := Nat.lt_of_lt_of_le hsz hgr.size
        have hxl' : Hid ((xs.set k 1).length = m) := by show _ = _; rw [List.length_set]; exact hxl.out
        have Hst := Lib.hid st
        have Hown := Lib.hid hown
        clear hcc hl c1 c2' c3' hkx st hown
        by_cases e1 : l.a = a
        · by_cases e2 : l.b = b
          · have t1 := bT e1
            have t2 := bT e2
            clear e1 e2
            go_wp2_with fail
            go_roundw
            case rel => exact ⟨k + 1, xs.set k 1, by omega, by go_num, hxl', Hst.out, hgs⟩
            case measure => simp [intOf]; omega
          · have t1 := bT e1
            have t2 := bF e2
            clear e1 e2
            go_wp2_with fail
            go_roundw
            case rel => exact ⟨k + 1, xs, by omega, by go_num, hxl, Hown.out, hgr⟩
            case measure => simp [intOf]; omega
        · have t1 := bF e1
          clear e1
          go_wp2_with fail
          go_roundw
          case rel => exact ⟨k + 1, xs, by omega, by go_num, hxl, Hown.out, hgr⟩
          case measure => simp [intOf]; omega
      · obtain rfl : k = m := by omega
        have hr5 := hr4.grown hgr (by simp; omega) (fun k hk => by injection hk with hk; omega)
        have ho5 := Ho.out.past ho4 hgr (fun k hk => by injection hk with hk; omega)
        have hof5 := own_past Hof.out hof4 hgr (fun k hk => by injection hk with hk; omega)
        have hg5 := grown_own hg4 hgr (fun k hk => by injection hk with hk; omega)
        have hg5s := hgr.size
        clear hgr ho4 hof4 hr4 hg4
        go_wp2_with fail
        refine (pick_any w.heap.size g (p0 + 1) 3 (by omega) (by omega) _ hr5 (by omega)).mono ?_
        rintro e w6 ⟨y, rfl, _, _, hg6⟩
        have hm6 := hown.kept hg6 (fun j hj => by injection hj with hj; omega)
        have ho6 := ho5.kept hg6 (fun j hj => by injection hj with hj; omega)
        have hof6 := hof5.kept hg6 (fun j hj => by injection hj with hj; omega)
        replace hg6 := grown_trans hg5 hg6
        replace hm6 := hm6.more hs2
        have hxm := hxl.out
        rw [← hxm] at hm6
        have HR1 := Lib.hid (Hret.out w6 _ _ xs _ _ xs (by omega) (by omega) ho6 hm6 hm6 hg6)
        have HR2 := Lib.hid (Hret.out w6 _ _ f _ _ xs hf7 (by omega) ho6 hof6 hm6 hg6)
        rw [hxm] at HR1 HR2
        clear hm6 ho6 hof6 hg6 hown ho5 hof5 hg5 hr5 hxm
        by_cases hy : y = 0
        · subst hy
          go_wp2_with fail
          (try simp only [Exit.inBlock, Exit.then]); refine bodyPost_ret (results_tmp6 rfl _ _ _) rfl ?_
          exact HR1.out
        · have t1 := bF hy
          clear hy
          go_wp2_with fail
          (try simp only [Exit.inBlock, Exit.then]); refine bodyPost_ret (results_tmp6 rfl _ _ _) rfl ?_
          exact HR2.out
  · go_wp2_with fail
    refine (pick_any w.heap.size g (p0 + 1) 3 (by omega) (by omega) _ hr4 (by omega)).mono ?_
    rintro e w6 ⟨y, rfl, _, _, hg6⟩
    have hm6 := hm4.kept hg6 (fun j hj => by injection hj with hj; omega)
    have ho6 := ho4.kept hg6 (fun j hj => by injection hj with hj; omega)
    have hof6 := hof4.kept hg6 (fun j hj => by injection hj with hj; omega)
    replace hg6 := grown_trans hg4 hg6
    replace hm6 := hm6.more hs2
    have hxm : (List.replicate m (0 : Int)).length = m := List.length_replicate
    have HR1 := Lib.hid (Hret.out w6 (some ⟨w2.heap.size, 0, none⟩) m (List.replicate m 0) (some ⟨w2.heap.size, 0, none⟩) m (List.replicate m 0) (by omega) (by omega) ho6 (by rw [hxm]; exact hm6) (by rw [hxm]; exact hm6) hg6)
    have HR2 := Lib.hid (Hret.out w6 _ _ f (some ⟨w2.heap.size, 0, none⟩) m (List.replicate m 0) hf7 (by omega) ho6 hof6 (by rw [hxm]; exact hm6) hg6)
    rw [hxm] at HR1 HR2
    clear hm6 ho6 hof6 hg6 hm4 ho4 hof4 hg4 hr4 hxm
    by_cases hy : y = 0
    · subst hy
      go_wp2_with fail
      (try simp only [Exit.inBlock, Exit.then]); refine bodyPost_ret (results_tmp6 rfl _ _ _) rfl ?_
      exact HR1.out
    · have t1 := bF hy
      clear hy
      go_wp2_with fail
      (try simp only [Exit.inBlock, Exit.then]); refine bodyPost_ret (results_tmp6 rfl _ _ _) rfl ?_
      exact HR2.out
end Go.Proofs.Ytkcfclkpbmeaiaa
