/- Laws of the kind 'the program answers as the reference does', walked (these lines are printed by lawgen.py). -/
import Derived.Test.YtgdegoomcofmfaaSb
import Derived.Test.YtgdegoomcofmfaaIm
import Derived.Test.YtgdegoomcofmfaaArgJ
import Derived.Test.YtgdegoomcofmfaaMarkJ
namespace Go.Proofs.Ytgdegoomcofmfaa
set_option linter.unusedVariables false
set_option linter.unusedSimpArgs false
open Go.RowKit
theorem markIntS_c (A : Option Addr) (n c c0 B : Nat) (xs : List Int) (hl : xs.length = n) (hn : n ≤ 1048576) (K : Int) (hK0 : 0 ≤ K) (hK : K ≤ 1000000000000) (w : World) (h : Own w B (.slice A n c0) xs) :
    Calls Try.prog 41 #[.slice A n c, .int .i64 K] w (MarkPost K n B A c0 w) := by
  by_cases h0 : n = 0
  · subst h0
    have H := Lib.hid h
    have Hl := Lib.hid hl
    clear h hl
    go_enter Try.func41, Try.ntmps41
    go_wp2_with fail
    go_loop [1, 5] (fun k i => k = .int .i64 K ∧ i = .int .i64 0) (fun _ _ => 0)
    case atStart => exact ⟨rfl, rfl⟩
    case round =>
      obtain ⟨rfl, rfl⟩ := hrel
      go_wp2_with fail
      go_ret
      exact ⟨xs, ret_int (by simp), Hl.out, fun j hj => absurd hj (by omega), H.out, grown_refl _ _⟩
  · obtain ⟨g, rfl, hg, hgl⟩ := h.some (by omega)
    have H := Lib.hid h
    have Hl := Lib.hid hl
    clear h hl
    go_enter Try.func41, Try.ntmps41
    go_wp2_with fail
    go_loopw [1, 5] (fun kv i wr => ∃ (k : Nat) (ys : List Int), k ≤ n ∧ i = .int .i64 k ∧ kv = .int .i64 (K + k) ∧ Hid (ys.length = n ∧ ∀ j, j < k → ys[j]? = some (K + j)) ∧ Own wr B (.slice (some ⟨g, 0, none⟩) n c0) ys ∧ w.grownBy wr (some g)) (fun _ i _ => n - (intOf i).toNat)
    case atStart => exact ⟨0, xs, by omega, rfl, by simp, ⟨Hl.out, fun j hj => absurd hj (by omega)⟩, H.out, grown_refl _ _⟩
    case round =>
      obtain ⟨k, ys, hk, rfl, rfl, hys, hown, hgr⟩ := hrel
      by_cases hlt : k < n
      · obtain ⟨y, hy⟩ : ∃ y, ys[k]? = some y := ⟨ys[k]'(by rw [hys.out.1]; exact hlt), List.getElem?_eq_getElem _⟩
        have e1 := hown.cell hy
        have f1 := hown.frozen k
        clear hy
        go_wp2_with fail
        go_roundw
        case rel => exact ⟨k + 1, ys.set k (K + k), by omega, by go_num, by go_num, ⟨by rw [List.length_set]; exact hys.out.1, fun j hj => by
          rcases (by omega : j < k ∨ j = k) with h | rfl
          · rw [List.getElem?_set_ne (by omega)]; exact hys.out.2 j h
          · rw [List.getElem?_set_self (by rw [hys.out.1]; exact hlt)]⟩, hown.stored k _ (by rw [hys.out.1]; exact hlt), grown_trans hgr (grown_set _ _ _ _)⟩
        case measure => simp [intOf]; omega
      · obtain rfl : k = n := by omega
        go_wp2_with fail
        go_ret
        exact ⟨ys, rfl, hys.out.1, hys.out.2, hown, hgr⟩
theorem held_c {A : Option Addr} {c c0 B : Nat} {xs ym : List Int} (hym : ym.length = xs.length) (hyl : ym.length ≤ 1048576) (hk : ∀ j, j < xs.length → ym[j]? = some (1 + (j : Int))) (w : World) (h : Own w B (.slice A xs.length c0) ym) :
    Calls Try.prog 42 #[.slice A xs.length c, .int .i64 1] w fun e w' => e = .returned (.int .i64 (1 + xs.length)) ∧ w = w' := by
  rw [← hym] at hk ⊢
  rw [← hym] at h
  exact heldIntS_any A c B w.heap.size ym hyl 1 (by omega) (by omega) hk w h.iv
theorem bestOf_mem (F : List Int → Int) : ∀ (L : List (List Int)) (s : List Int × Int), (L.foldl (stepB F) s).1 = s.1 ∨ (L.foldl (stepB F) s).1 ∈ L
  | [], s => .inl rfl
  | y :: L, s => by
    rw [List.foldl_cons]
    rcases bestOf_mem F L (stepB F s y) with h | h
    · rw [h]
      unfold stepB
      split
      · right; simp
      · left; rfl
    · right; simp [h]
theorem bestR_one (l : List UInt8) (J : List Jb) : Fn1 (bestR l J) := fun xs ok ys ok' h1 h2 => ⟨h1.2.trans h2.2.symm, h1.1.trans h2.1.symm⟩
theorem bestR_len {l : List UInt8} {J : List Jb} {xs : List Int} {ok : Bool} (hJ : J.length ≤ 1048576) (h : bestR l J xs ok) : xs.length ≤ 1048576 := by
  rw [h.2]
  split
  · rcases bestOf_mem (lossV l J) (perms J.length J.length []) ([], -1) with h1 | h1
    · unfold bestOf; rw [h1]; simp
    · have := (perms_ok J.length [] _ ⟨by simp, by simp⟩ (by simp) h1).2
      unfold bestOf; rw [this]; exact hJ
  · simp
theorem specBestP (s : ByteArray) (A : Option Addr) (c : Nat) (J : List Jb) (hs : s.size ≤ maxLen) (hJn : J.length ≤ 1048576) (w : World) (hJ : Jbs w w.heap.size A J) :
    Calls Try.prog 32 #[.string s, .slice A J.length c] w (SpPost (bestR s.data.toList J) w) :=
  (specBest s A c J hs hJn w hJ).mono fun _ _ h => h.sp
set_option maxRecDepth 100000 in
theorem walk_ExactPlanBest (a0 : ByteArray) (A1 : Option Addr) (c1 : Nat) (x1 : List Jb) (hs0 : a0.size ≤ maxLen) (hn1 : x1.length ≤ maxLen) (w : World) (hm1 : Jbs w w.heap.size A1 x1) :
    Calls Try.prog 13 #[.string a0, .slice A1 x1.length c1] w fun e w' => e = .returned (.bool true) ∧ Below w.heap.size w w' := by
  have hq0 := hs0
  unfold maxLen at hq0
  by_cases hf0 : 1048576 < a0.size
  · go_enter Try.func13, Try.ntmps13
    go_wp2_with fail
    go_ret
    exact ⟨rfl, Below.refl _ _⟩
  have hn0' : a0.size ≤ 1048576 := by omega
  have hsz1 := szJobS_any A1 x1.length c1 hn1 1048576 (by omega) (by omega)
  by_cases hbig1 : (1048576 : Int) - x1.length < 0
  · rw [if_pos hbig1] at hsz1
    replace hsz1 := Lib.hid hsz1
    go_enter Try.func13, Try.ntmps13
    go_wp2_with fail
    refine (hsz1.out _).mono ?_
    rintro e w1 ⟨rfl, rfl⟩
    go_wp2_with fail
    go_ret
    exact ⟨rfl, Below.refl _ _⟩
  rw [if_neg hbig1] at hsz1
  replace hsz1 := Lib.hid hsz1
  have hn1' : x1.length ≤ 1048576 := by omega
  go_enter Try.func13, Try.ntmps13
  go_wp2_with fail
  refine (hsz1.out _).mono ?_
  rintro e w1 ⟨rfl, rfl⟩
  have hb := Below.refl w.heap.size w
  go_wp2_with fail
  refine (toJobS_any A1 c1 x1 hn1' _ ((hm1.below hb).more hb.size)).mono ?_
  rintro e w1 ⟨gs1, rfl, hrs1, hgs1, hb1⟩
  clear hgs1
  replace hb := hb.trans (hb1.mono hb.size)
  clear hb1
  go_wp2_with fail
  refine (specBestP a0 _ _ x1 hs0 hn1' _ (hrs1.jbs hrs1.lt)).mono ?_
  rintro e w2 ⟨As, cs, xs, oks, rfl, hRs, hIs, hb2⟩
  obtain ⟨hiS, hhiS⟩ : ∃ z, z = w2.heap.size := ⟨_, rfl⟩
  rw [← hhiS] at hIs
  have hles := Nat.le_of_eq hhiS
  clear hhiS
  have hbd := bestR_len hn1' hRs
  replace hRs := Lib.hid hRs
  clear hrs1
  replace hb := hb.trans (hb2.mono hb.size)
  clear hb2
  go_wp2_with fail
  refine (toJobS_any A1 c1 x1 hn1' _ ((hm1.below hb).more hb.size)).mono ?_
  rintro e w3 ⟨gp1, rfl, hrp1, hgp1, hb3⟩
  have hlo1 := Nat.le_trans hles hgp1
  have hlw1 := Nat.le_trans hb.size hgp1
  clear hgp1
  replace hIs := hIs.below hb3 hles
  replace hles := Nat.le_trans hles hb3.size
  replace hb := hb.trans (hb3.mono hb.size)
  clear hb3
  have hltp1 := hrp1.lt
  have hBS := hles
  go_wp2_with fail
  refine (implBest a0 _ _ x1 hs0 hn1' _ (hrp1.jbs hrp1.lt)).mono ?_
  rintro e w4 ⟨Ap, cp, cp0, xp, okp, rfl, hRp, hOp, hb4⟩
  obtain ⟨e1, e2⟩ := bestR_one _ _ _ _ _ _ hRs.out hRp
  subst e1 e2
  clear hRp
  replace hrp1 := hrp1.below hb4 hrp1.lt
  replace hIs := hIs.below hb4 hles
  replace hles := Nat.le_trans hles hb4.size
  replace hb := hb.trans (hb4.mono hb.size)
  clear hb4
  go_wp2_with fail
  refine (eqIntS_same _ _ _ _ _ _ _ _ xs hbd _ hOp.iv hIs).mono ?_
  rintro e w5 ⟨rfl, hb5⟩
  replace hrp1 := hrp1.below hb5 hrp1.lt
  replace hOp := hOp.below hb5
  replace hIs := hIs.below hb5 hles
  replace hles := Nat.le_trans hles hb5.size
  replace hb := hb.trans (hb5.mono hb.size)
  clear hb5
  go_wp2_with fail
  refine (toJobS_any A1 c1 x1 hn1' _ ((hm1.below hb).more hb.size)).mono ?_
  rintro e w6 ⟨g1, rfl, hr1, hg1, hb6⟩
  replace hrp1 := hrp1.below hb6 hrp1.lt
  replace hOp := hOp.below hb6
  replace hIs := hIs.below hb6 hles
  replace hles := Nat.le_trans hles hb6.size
  replace hb := hb.trans (hb6.mono hb.size)
  clear hb6
  go_wp2_with fail
  refine (eqJobS_same _ _ _ _ x1 hn1' _ (hrp1.jbs hrp1.lt) (hr1.jbs hr1.lt)).mono ?_
  rintro e w7 ⟨rfl, hb7⟩
  clear hr1 hg1
  replace hrp1 := hrp1.below hb7 hrp1.lt
  replace hOp := hOp.below hb7
  replace hIs := hIs.below hb7 hles
  replace hles := Nat.le_trans hles hb7.size
  replace hb := hb.trans (hb7.mono hb.size)
  clear hb7
  go_wp2_with fail
  refine (markJobS_any _ _ x1 hn1' _ (by omega) (by omega) _ hrp1).mono ?_
  rintro e w8 ⟨rfl, hgrm⟩
  replace hIs := hIs.grown hgrm (fun j hj => by injection hj with hj; right; omega)
  replace hOp := hOp.kept hgrm (fun j hj => by injection hj with hj; omega)
  replace hb := hb.grown hgrm hb.size (fun j hj => by injection hj with hj; omega)
  replace hles := Nat.le_trans hles hgrm.size
  clear hgrm hrp1
  go_wp2_with fail
  refine (eqIntS_same _ _ _ _ _ _ _ _ xs hbd _ hOp.iv hIs).mono ?_
  rintro e w9 ⟨rfl, hb9⟩
  replace hOp := hOp.below hb9
  replace hIs := hIs.below hb9 hles
  replace hles := Nat.le_trans hles hb9.size
  replace hb := hb.trans (hb9.mono hb.size)
  clear hb9
  go_wp2_with fail
  refine (markIntS_c _ _ _ _ _ xs rfl hbd _ (by omega) (by omega) _ hOp).mono ?_
  rintro e w10 ⟨ym, rfl, hym, hymk, hOm, hgrm⟩
  replace hIs := hIs.own hOp hgrm hBS
  replace hb := hb.grown hgrm hb.size (fun j hj => by have := hOp.block j hj; omega)
  replace hles := Nat.le_trans hles hgrm.size
  clear hgrm hOp
  have hyl : ym.length ≤ 1048576 := by omega
  replace hymk := Lib.hid hymk
  have Hym := Lib.hid hym
  clear hym
  go_wp2_with fail
  refine (held_c Hym.out hyl hymk.out _ hOm).mono ?_
  rintro e w11 ⟨rfl, rfl⟩
  go_wp2_with fail
  refine (toJobS_any A1 c1 x1 hn1' _ ((hm1.below hb).more hb.size)).mono ?_
  rintro e w11 ⟨gh1, rfl, hrh1, hgh1, hb11⟩
  clear hgh1
  replace hOm := hOm.below hb11
  replace hIs := hIs.below hb11 hles
  replace hles := Nat.le_trans hles hb11.size
  replace hb := hb.trans (hb11.mono hb.size)
  clear hb11
  go_wp2_with fail
  refine (implBest a0 _ _ x1 hs0 hn1' _ (hrh1.jbs hrh1.lt)).mono ?_
  rintro e w12 ⟨Ah, ch, ch0, xh, okh, rfl, hRh, hOh, hb12⟩
  obtain ⟨e1, e2⟩ := bestR_one _ _ _ _ _ _ hRs.out hRh
  subst e1 e2
  clear hRh
  clear hrh1
  replace hOm := hOm.below hb12
  replace hIs := hIs.below hb12 hles
  replace hles := Nat.le_trans hles hb12.size
  replace hb := hb.trans (hb12.mono hb.size)
  clear hb12
  go_wp2_with fail
  refine (eqIntS_same _ _ _ _ _ _ _ _ xs hbd _ hOh.iv hIs).mono ?_
  rintro e w13 ⟨rfl, hb13⟩
  replace hOm := hOm.below hb13
  replace hOh := hOh.below hb13
  replace hIs := hIs.below hb13 hles
  replace hles := Nat.le_trans hles hb13.size
  replace hb := hb.trans (hb13.mono hb.size)
  clear hb13
  go_wp2_with fail
  refine (held_c Hym.out hyl hymk.out _ hOm).mono ?_
  rintro e w14 ⟨rfl, rfl⟩
  go_wp2_with fail
  go_ret
  exact ⟨rfl, hb⟩
theorem law_ExactPlanBest (a0 : ByteArray) (a1 : Option Addr) (len1 cap1 : Nat) (z1 : List Jb) (w : World) (w0 : a0.size ≤ maxLen) (w1 : ArgJ w a1 len1 cap1 z1) :
    Calls Try.prog 13 #[.string a0, .slice a1 len1 cap1] w fun e w' => e = .returned (.bool true) ∧ Below w.heap.size w w' := by
  obtain ⟨rfl, hl1, hm1⟩ := w1
  exact walk_ExactPlanBest a0 a1 cap1 z1 w0 hl1 w hm1
end Go.Proofs.Ytgdegoomcofmfaa
