/- PlanRate of the reference, walked. -/
import Derived.Test.YtglncadfmomamaaRt
import Derived.Test.YtglncadfmomamaaPb
namespace Go.Proofs.Ytglncadfmomamaa
set_option linter.unusedVariables false
set_option linter.unusedSimpArgs false
open Go.RowKit
theorem tw_at (p : Int → Bool) (X : List Int) : (X.takeWhile p).length ≤ X.length ∧ X.take (X.takeWhile p).length = X.takeWhile p ∧ X.drop (X.takeWhile p).length = X.dropWhile p ∧
    (∀ j, j < (X.takeWhile p).length → p (X.getD j 0) = true) ∧ ((X.takeWhile p).length < X.length → p (X.getD (X.takeWhile p).length 0) = false) := by
  have hs := List.takeWhile_append_dropWhile (p := p) (l := X)
  have ht := tw_all (p := p) X
  have hd := dw_head (p := p) X
  obtain ⟨A, hA⟩ : ∃ A, A = X.takeWhile p := ⟨_, rfl⟩
  obtain ⟨B, hB⟩ : ∃ B, B = X.dropWhile p := ⟨_, rfl⟩
  rw [← hA] at ht
  rw [← hB] at hd
  rw [← hA, ← hB] at hs ⊢
  subst hs
  refine ⟨by simp, by simp, by simp, fun j hj => ?_, fun h => ?_⟩
  · rw [List.getD, List.getElem?_append_left hj, List.getElem?_eq_getElem hj]
    exact ht _ (List.getElem_mem hj)
  · cases B with
    | nil => simp at h
    | cons b B =>
      rw [List.getD, List.getElem?_append_right (Nat.le_refl _), Nat.sub_self]
      exact hd b B rfl
set_option maxRecDepth 100000 in
theorem rAhead_any (J : List Jb) (hfit : JobsFit J) (A : Option Addr) (c B : Nat) (i k : Nat) (hi : i < J.length) (hk : k < J.length) (hJ6 : J.length ≤ 6) (w : World) (hJ : Jbs w B A J) :
    Calls Try.prog 62 #[.slice A J.length c, .int .i64 i, .int .i64 k] w fun e w' => e = .returned (.bool (ahd (jd J) (jw J) i k)) ∧ ∃ q, w' = w.drewN q := by
  obtain ⟨b, off, rfl, hb, hc⟩ := hJ (by omega)
  have hat : ∀ q : Nat, q < J.length → J[q]? = some (jAt J (q : Nat)) := fun q hq => by unfold jAt; rw [Int.toNat_natCast, List.getD, List.getElem?_eq_getElem hq]; rfl
  obtain ⟨i1, i2⟩ := hc i _ (hat i hi)
  obtain ⟨k1, k2⟩ := hc k _ (hat k hk)
  have f1 := hfit i hi
  have f2 := hfit k hk
  have HA : Hid (ahd (jd J) (jw J) i k = (decide ((jAt J k).w * (jAt J i).d < (jAt J i).w * (jAt J k).d) || (!decide ((jAt J i).w * (jAt J k).d < (jAt J k).w * (jAt J i).d) && decide ((i : Int) < k)))) := rfl
  obtain ⟨r, hr⟩ : ∃ r, r = ahd (jd J) (jw J) i k := ⟨_, rfl⟩
  rw [← hr] at HA ⊢
  obtain ⟨di, hdi⟩ : ∃ d, d = (jAt J i).d := ⟨_, rfl⟩
  obtain ⟨wi, hwi⟩ : ∃ d, d = (jAt J i).w := ⟨_, rfl⟩
  obtain ⟨dk, hdk⟩ : ∃ d, d = (jAt J k).d := ⟨_, rfl⟩
  obtain ⟨wk, hwk⟩ : ∃ d, d = (jAt J k).w := ⟨_, rfl⟩
  rw [← hdi, ← hwi] at f1
  rw [← hdk, ← hwk] at f2
  rw [← hdi] at i1
  rw [← hwi] at i2
  rw [← hdk] at k1
  rw [← hwk] at k2
  rw [← hdi, ← hwi, ← hdk, ← hwk] at HA
  have p1 : IntKind.i64.wrap (wk * di) = wk * di := by
    have := Int.mul_le_mul (show wk ≤ 9 by omega) (show di ≤ 9 by omega) (by omega) (by omega)
    have := Int.mul_nonneg (show 0 ≤ wk by omega) (show 0 ≤ di by omega)
    exact IntWalk.i64_in _ (by omega)
  have p2 : IntKind.i64.wrap (wi * dk) = wi * dk := by
    have := Int.mul_le_mul (show wi ≤ 9 by omega) (show dk ≤ 9 by omega) (by omega) (by omega)
    have := Int.mul_nonneg (show 0 ≤ wi by omega) (show 0 ≤ dk by omega)
    exact IntWalk.i64_in _ (by omega)
  obtain ⟨x, hx⟩ : ∃ x, x = wi * dk := ⟨_, rfl⟩
  obtain ⟨y, hy⟩ : ∃ y, y = wk * di := ⟨_, rfl⟩
  rw [← hy] at p1
  rw [← hx] at p2
  rw [← hx, ← hy] at HA
  have q1 : IntKind.i64.wrap (wk * di) = y := by rw [← hy]; exact p1
  have q2 : IntKind.i64.wrap (wi * dk) = x := by rw [← hx]; exact p2
  obtain ⟨n, hn⟩ : ∃ n, n = J.length := ⟨_, rfl⟩
  rw [← hn] at hi hk ⊢
  clear hc hat hr hdi hwi hdk hwk hn f1 f2 hx hy p1 p2
  by_cases h1 : y < x
  · obtain rfl : r = true := by rw [HA.out]; simp [h1]
    go_enter Try.func62, Try.ntmps62
    go_wp2_with fail
    go_quiet (fail)
    go_wp2_with fail
    go_quiet (fail)
    go_wp2_with fail
    go_ret
    exact ⟨rfl, _, by first | rfl | exact World.drewN_drewN _ _ _⟩
  · by_cases h2 : x = y
    · have t1 := bT h2
      by_cases h3 : i < k
      · obtain rfl : r = true := by rw [HA.out]; simp [h2]; omega
        go_enter Try.func62, Try.ntmps62
        go_wp2_with fail
        go_quiet (fail)
        go_wp2_with fail
        go_quiet (fail)
        go_wp2_with fail
        go_ret
        exact ⟨rfl, _, by first | rfl | exact World.drewN_drewN _ _ _⟩
      · obtain rfl : r = false := by rw [HA.out]; simp [h2]; omega
        go_enter Try.func62, Try.ntmps62
        go_wp2_with fail
        go_quiet (fail)
        go_wp2_with fail
        go_quiet (fail)
        go_wp2_with fail
        go_ret
        exact ⟨rfl, _, by first | rfl | exact World.drewN_drewN _ _ _⟩
    · have t1 := bF h2
      obtain rfl : r = false := by
        have h4 : x < y := by omega
        rw [HA.out]; simp [h1, h4]
      go_enter Try.func62, Try.ntmps62
      go_wp2_with fail
      go_quiet (fail)
      go_wp2_with fail
      go_quiet (fail)
      go_wp2_with fail
      go_ret
      exact ⟨by simp [h1], _, by first | rfl | exact World.drewN_drewN _ _ _⟩
set_option maxRecDepth 100000 in
set_option maxHeartbeats 4000000 in
theorem specPlanRate (s : ByteArray) (AJ : Option Addr) (c : Nat) (J : List Jb) (hs : s.size ≤ maxLen) (hJn : J.length ≤ 1048576) (w : World) (hJ : Jbs w w.heap.size AJ J) :
    Calls Try.prog 25 #[.string s, .slice AJ J.length c] w (SlPost (rateR s.data.toList J) w) := by
  have hb0 : Below w.heap.size w (w.alloc (Obj.cells #[] 3)) := (Below.refl _ w).alloc (Nat.le_refl _) _
  have HJ : Hid (∀ w', Below w.heap.size w w' → Jbs w' w.heap.size AJ J) := fun w' h => hJ.below h
  have H1 := Lib.hid (specOk s AJ c J hs hJn (w.alloc (Obj.cells #[] 3)) ((HJ.out _ hb0).more hb0.size))
  have ho0 : Own (w.alloc (Obj.cells #[] 3)) w.heap.size (.slice (some ⟨w.heap.size, 0, none⟩) 0 0) [] := Own.lit0 w _ (Nat.le_refl _)
  obtain ⟨n, hn⟩ : ∃ n, n = J.length := ⟨_, rfl⟩
  have Hn := Lib.hid hn
  obtain ⟨pv, hpv⟩ : ∃ b, b = planV s.data.toList J := ⟨_, rfl⟩
  have Hpv := Lib.hid hpv
  rw [← hpv, ← hn] at H1
  rw [← hn] at hJn ⊢
  clear hJ hn hpv
  cases pv with
  | false =>
    go_enter Try.func25, Try.ntmps25
    go_wp2_with fail
    refine H1.out.mono ?_
    rintro e w1 ⟨rfl, hb1⟩
    replace ho0 := ho0.below hb1
    go_wp2_with fail
    go_ret2
    exact SlPost.mk ⟨by rw [← Hpv.out]; rfl, Hpv.out⟩ ho0 (hb0.trans (hb1.mono hb0.size))
  | true =>
    have hfit := plan_fit Hpv.out.symm
    have h6 : J.length ≤ 6 := by
      have := (planIn_fit (planIn_first Hpv.out.symm)).2.2.2.1.1
      simpa using this
    have HA := Lib.hid (fun (i k : Nat) (hi : i < J.length) (hk : k < J.length) (w' : World) (h : Below w.heap.size w w') => rAhead_any J hfit AJ c w.heap.size i k hi hk h6 w' (HJ.out w' h))
    rw [← Hn.out] at h6 HA
    have HN : Hid (∀ k : Nat, rateTo (jd J) (jw J) (k + 1) = (rateTo (jd J) (jw J) k).takeWhile (ahd (jd J) (jw J) · k) ++ (k : Int) :: (rateTo (jd J) (jw J) k).dropWhile (ahd (jd J) (jw J) · k)) := fun k => rfl
    clear hfit
    go_enter Try.func25, Try.ntmps25
    go_wp2_with fail
    refine H1.out.mono ?_
    rintro e w1 ⟨rfl, hb1⟩
    replace ho0 := ho0.below hb1
    replace hb1 := hb0.trans (hb1.mono hb0.size)
    clear hb0 H1
    go_wp2_with fail
    go_loopw [6, 7, 8, 9] (fun o i _ _ wr => ∃ (k g c' : Nat), k ≤ n ∧ i = .int .i64 k ∧ o = .slice (some ⟨g, 0, none⟩) k c' ∧ Own wr w.heap.size (.slice (some ⟨g, 0, none⟩) k c') (rateTo (jd J) (jw J) k) ∧ Below w.heap.size w wr) (fun _ i _ _ _ => n - (intOf i).toNat)
    case atStart => exact ⟨0, w.heap.size, 0, by omega, rfl, rfl, ho0, hb1⟩
    case round =>
      clear ho0 hb1
      obtain ⟨k, g, c', hk, rfl, rfl, hown, hbel⟩ := hrel
      have hform : k ≤ c' := by obtain ⟨_, _, e, h1, _⟩ := hown.form; simp only [Value.slice.injEq] at e; obtain ⟨-, e2, e3⟩ := e; omega
      by_cases hkn : k < n
      · obtain ⟨X, hX⟩ : ∃ X, X = rateTo (jd J) (jw J) k := ⟨_, rfl⟩
        have hXl : X.length = k := by rw [hX, rateTo_length]
        have hXm : ∀ x, x ∈ X → 0 ≤ x ∧ x < k := by rw [hX]; exact fun x hx => (rateTo_mem _ _ k x).1 hx
        have hnx := HN.out k
        rw [← hX] at hnx hown
        obtain ⟨p, hp⟩ : ∃ p : Int → Bool, p = (ahd (jd J) (jw J) · k) := ⟨_, rfl⟩
        rw [← hp] at hnx
        obtain ⟨t1, t2, t3, t4, t5⟩ := tw_at p X
        rw [← t2, ← t3] at hnx
        obtain ⟨t, ht⟩ : ∃ t, t = (X.takeWhile p).length := ⟨_, rfl⟩
        rw [← ht] at t1 t4 t5 hnx
        rw [hXl] at t1 t5
        have HAk : Hid (∀ j, j < k → ∃ q : Nat, X[j]? = some (q : Int) ∧ q < n ∧ ∀ w', Below w.heap.size w w' → Calls Try.prog 62 #[.slice AJ n c, .int .i64 q, .int .i64 k] w' fun e w'' => e = .returned (.bool (p (X.getD j 0))) ∧ ∃ q, w'' = w'.drewN q) := fun j hj => by
          have hx := List.getElem?_eq_getElem (show j < X.length by omega)
          have hm := hXm _ (List.getElem_mem (show j < X.length by omega))
          obtain ⟨q, hq⟩ := Int.eq_ofNat_of_zero_le hm.1
          refine ⟨q, by rw [hx, hq], by omega, fun w' h => ?_⟩
          rw [List.getD, hx, Option.getD_some, hp, hq]
          exact HA.out q k (by omega) hkn w' h
        have T4 := Lib.hid t4
        have T5 := Lib.hid t5
        have HX := Lib.hid hnx
        have HXl := Lib.hid hXl
        clear hX hXm hp t2 t3 t4 t5 ht hnx hXl
        go_wp2_with fail
        go_loopw [8] (fun a wi => ∃ (j q : Nat), j ≤ t ∧ a = .int .i64 j ∧ wi = wr.drewN q) (fun a _ => n - (intOf a).toNat)
        case atStart => exact ⟨0, 0, by omega, rfl, rfl⟩
        case round =>
          obtain ⟨j, q, hj, rfl, rfl⟩ := hrel
          have hownj := (show Own (wr.drewN q) w.heap.size (.slice (some ⟨g, 0, none⟩) k c') X from hown)
          have hbelj := below_drewN hbel q
          rcases (by omega : j < t ∨ j = t) with hjt | rfl
          · have hjk : j < k := by omega
            obtain ⟨x, hx, hxn, hcall⟩ := HAk.out j hjk
            have hcj := hcall (wr.drewN q) hbelj
            rw [T4.out j hjt] at hcj
            have hxc := Lib.hid (Own.cell hownj hx)
            have hxc := hxc.out
            replace hcj := Lib.hid hcj
            clear hcall hx hownj hbelj
            go_wp2_with fail
            refine hcj.out.mono ?_
            rintro e w3 ⟨rfl, q2, rfl⟩
            go_wp2_with fail
            go_roundw
            case rel => exact ⟨j + 1, _, by omega, by go_num, by first | rfl | exact World.drewN_drewN _ _ _⟩
            case measure => simp [intOf]; omega
          · rcases (by omega : j < k ∨ k = j) with hjk | hjk
            · obtain ⟨x, hx, hxn, hcall⟩ := HAk.out j hjk
              have hcj := hcall (wr.drewN q) hbelj
              rw [T5.out hjk] at hcj
              have hxc := Own.cell hownj hx
              replace hcj := Lib.hid hcj
              clear hcall hx
              go_wp2_with fail
              refine hcj.out.mono ?_
              rintro e w3 ⟨rfl, q2, rfl⟩
              have hownW : Hid (Own ((wr.drewN q).drewN q2) w.heap.size (.slice (some ⟨g, 0, none⟩) k c') X) := hownj
              have hbelW := below_drewN hbelj q2
              clear hxc hcj hownj hbelj hown hbel
              generalize (wr.drewN q).drewN q2 = W at hownW hbelW ⊢
              have Ho1 := Lib.hid (Own.lit0 W W.heap.size (Nat.le_refl _))
              have hst1 : Hid ((X.take j).length = j) := by show _ = _; rw [List.length_take, HXl.out]; omega
              have hst2 : Hid ((X.drop j).length = k - j) := by show _ = _; rw [List.length_drop, HXl.out]
              have Hdc : Hid (∀ i x, (X.take j)[i]? = some x → (W.alloc (Obj.cells #[] 3)).cell? ((⟨g, 0, none⟩ : Addr).add i) = some (.int .i64 x)) := fun i x h => by
                rw [List.getElem?_take] at h
                split at h
                · rw [Addr.add_lit, Nat.zero_add]
                  exact Own.cell (hownW.out.alloc _) h
                · cases h
              have hne : ¬ c' = j := by omega
              have hne' : ¬ (c' : Int) = (j : Int) := by omega
              have Hdd : Hid (∀ W2, Below W.heap.size W W2 → ∀ i x, (X.drop j)[i]? = some x → W2.cell? ((⟨g, j, none⟩ : Addr).add i) = some (.int .i64 x)) := fun W2 h i x hx => by
                rw [List.getElem?_drop] at hx
                rw [Addr.add_lit]
                exact Own.cell (hownW.out.below h) hx
              go_wp2_with (first
                | (refine appK _ rfl _ _ rfl W.heap.size _ [] rfl Ho1.out ⟨g, 0, none⟩ j c' (X.take j) rfl hst1.out Hdc.out (by have := hst1.out; simp; omega) (by simp) j (by simpa using hst1.out) ?_; intro A1 c1 W1 ho2 hg2; have hB1 : Below W.heap.size W W1 := Ho1.out.grownBelow hg2 ((Below.refl _ W).alloc (Nat.le_refl _) _) (Nat.le_refl _) (by simp); have ho2 := Lib.hid ho2)
                | (refine app1 _ rfl _ _ rfl W.heap.size _ ([] ++ X.take j) rfl (Own.alloc ho2.out _) j (by simpa using hst1.out) _ k rfl (alloc1_cell rfl) (by omega) (by have := hB1.size; simp; omega) ?_; intro A2 c2 W2 ho3 hg3; have hB2 : Below W.heap.size W W2 := (Own.alloc ho2.out _).grownBelow hg3 (hB1.alloc hB1.size _) (Nat.le_refl _) (by have := hB1.size; simp; omega); have ho3 := Lib.hid ho3)
                | (refine appK _ rfl _ _ rfl W.heap.size _ ([] ++ X.take j ++ [(k : Int)]) rfl ho3.out ⟨g, j, none⟩ _ _ (X.drop j) rfl hst2.out (Hdd.out _ hB2) (by have := HXl.out; simp; omega) (by have := hB2.size; omega) (k + 1) (by have := HXl.out; simp; omega) ?_; intro A3 c3 W3 ho4 hg4; have hB3 : Below W.heap.size W W3 := ho3.out.grownBelow hg4 hB2 (Nat.le_refl _) (by have := hB2.size; omega); have ho4 := Lib.hid ho4))
              go_roundw
              case rel =>
                have ho5 := ho4.out
                rw [show [] ++ X.take j ++ [(k : Int)] ++ X.drop j = rateTo (jd J) (jw J) (k + 1) by rw [HX.out]; simp] at ho5
                obtain ⟨g5, rfl, hg5, -⟩ := ho5.some (by rw [rateTo_length]; omega)
                exact ⟨k + 1, g5, c3, by omega, by go_num, rfl, ho5.more hbelW.size, hbelW.trans (hB3.mono hbelW.size)⟩
              case measure => simp [intOf]; omega
            · subst hjk
              have hownW : Hid (Own (wr.drewN q) w.heap.size (.slice (some ⟨g, 0, none⟩) k c') X) := hownj
              have hbelW := hbelj
              clear hownj hbelj hown hbel
              generalize wr.drewN q = W at hownW hbelW ⊢
              rcases (by omega : c' = k ∨ k < c') with hcj | hcj
              · subst hcj
                have Ho1 := Lib.hid (Own.lit0 W W.heap.size (Nat.le_refl _))
                have hst1 : Hid ((X.take c').length = c') := by show _ = _; rw [List.length_take, HXl.out]; omega
                have hst2 : Hid ((X.drop c').length = 0) := by show _ = _; rw [List.length_drop, HXl.out, Nat.sub_self]
                have Hdc : Hid (∀ i x, (X.take c')[i]? = some x → (W.alloc (Obj.cells #[] 3)).cell? ((⟨g, 0, none⟩ : Addr).add i) = some (.int .i64 x)) := fun i x h => by
                  rw [List.getElem?_take] at h
                  split at h
                  · rw [Addr.add_lit, Nat.zero_add]
                    exact Own.cell (hownW.out.alloc _) h
                  · cases h
                have Hdd : Hid (∀ W2, Below W.heap.size W W2 → ∀ i x, (X.drop c')[i]? = some x → W2.cell? ((⟨g, 0, none⟩ : Addr).add i) = some (.int .i64 x)) := fun W2 h i x hx => by
                  rw [List.getElem?_drop, List.getElem?_eq_none (by rw [HXl.out]; omega)] at hx
                  cases hx
                go_wp2_with (first
                  | (refine appK _ rfl _ _ rfl W.heap.size _ [] rfl Ho1.out ⟨g, 0, none⟩ c' c' (X.take c') rfl hst1.out Hdc.out (by have := hst1.out; simp; omega) (by simp) c' (by simpa using hst1.out) ?_; intro A1 c1 W1 ho2 hg2; have hB1 : Below W.heap.size W W1 := Ho1.out.grownBelow hg2 ((Below.refl _ W).alloc (Nat.le_refl _) _) (Nat.le_refl _) (by simp); have ho2 := Lib.hid ho2)
                  | (refine app1 _ rfl _ _ rfl W.heap.size _ ([] ++ X.take c') rfl (Own.alloc ho2.out _) c' (by simpa using hst1.out) _ c' rfl (alloc1_cell rfl) (by omega) (by have := hB1.size; simp; omega) ?_; intro A2 c2 W2 ho3 hg3; have hB2 : Below W.heap.size W W2 := (Own.alloc ho2.out _).grownBelow hg3 (hB1.alloc hB1.size _) (Nat.le_refl _) (by have := hB1.size; simp; omega); have ho3 := Lib.hid ho3)
                  | (refine appK _ rfl _ _ rfl W.heap.size _ ([] ++ X.take c' ++ [(c' : Int)]) rfl ho3.out ⟨g, 0, none⟩ _ _ (X.drop c') rfl hst2.out (Hdd.out _ hB2) (by have := HXl.out; simp; omega) (by have := hB2.size; omega) (c' + 1) (by have := HXl.out; simp; omega) ?_; intro A3 c3 W3 ho4 hg4; have hB3 : Below W.heap.size W W3 := ho3.out.grownBelow hg4 hB2 (Nat.le_refl _) (by have := hB2.size; omega); have ho4 := Lib.hid ho4))
                go_roundw
                case rel =>
                  have ho5 := ho4.out
                  rw [show [] ++ X.take c' ++ [(c' : Int)] ++ X.drop c' = rateTo (jd J) (jw J) (c' + 1) by rw [HX.out]; simp] at ho5
                  obtain ⟨g5, rfl, hg5, -⟩ := ho5.some (by rw [rateTo_length]; omega)
                  exact ⟨c' + 1, g5, c3, by omega, by go_num, rfl, ho5.more hbelW.size, hbelW.trans (hB3.mono hbelW.size)⟩
                case measure => simp [intOf]; omega
              · have Ho1 := Lib.hid (Own.lit0 W W.heap.size (Nat.le_refl _))
                have hst1 : Hid ((X.take k).length = k) := by show _ = _; rw [List.length_take, HXl.out]; omega
                have hst2 : Hid ((X.drop k).length = 0) := by show _ = _; rw [List.length_drop, HXl.out, Nat.sub_self]
                have Hdc : Hid (∀ i x, (X.take k)[i]? = some x → (W.alloc (Obj.cells #[] 3)).cell? ((⟨g, 0, none⟩ : Addr).add i) = some (.int .i64 x)) := fun i x h => by
                  rw [List.getElem?_take] at h
                  split at h
                  · rw [Addr.add_lit, Nat.zero_add]
                    exact Own.cell (hownW.out.alloc _) h
                  · cases h
                have hne : ¬ c' = k := by omega
                have hne' : ¬ (c' : Int) = (k : Int) := by omega
                have Hdd : Hid (∀ W2, Below W.heap.size W W2 → ∀ i x, (X.drop k)[i]? = some x → W2.cell? ((⟨g, k, none⟩ : Addr).add i) = some (.int .i64 x)) := fun W2 h i x hx => by
                  rw [List.getElem?_drop] at hx
                  rw [Addr.add_lit]
                  exact Own.cell (hownW.out.below h) hx
                go_wp2_with (first
                  | (refine appK _ rfl _ _ rfl W.heap.size _ [] rfl Ho1.out ⟨g, 0, none⟩ k c' (X.take k) rfl hst1.out Hdc.out (by have := hst1.out; simp; omega) (by simp) k (by simpa using hst1.out) ?_; intro A1 c1 W1 ho2 hg2; have hB1 : Below W.heap.size W W1 := Ho1.out.grownBelow hg2 ((Below.refl _ W).alloc (Nat.le_refl _) _) (Nat.le_refl _) (by simp); have ho2 := Lib.hid ho2)
                  | (refine app1 _ rfl _ _ rfl W.heap.size _ ([] ++ X.take k) rfl (Own.alloc ho2.out _) k (by simpa using hst1.out) _ k rfl (alloc1_cell rfl) (by omega) (by have := hB1.size; simp; omega) ?_; intro A2 c2 W2 ho3 hg3; have hB2 : Below W.heap.size W W2 := (Own.alloc ho2.out _).grownBelow hg3 (hB1.alloc hB1.size _) (Nat.le_refl _) (by have := hB1.size; simp; omega); have ho3 := Lib.hid ho3)
                  | (refine appK _ rfl _ _ rfl W.heap.size _ ([] ++ X.take k ++ [(k : Int)]) rfl ho3.out ⟨g, k, none⟩ _ _ (X.drop k) rfl hst2.out (Hdd.out _ hB2) (by have := HXl.out; simp; omega) (by have := hB2.size; omega) (k + 1) (by have := HXl.out; simp; omega) ?_; intro A3 c3 W3 ho4 hg4; have hB3 : Below W.heap.size W W3 := ho3.out.grownBelow hg4 hB2 (Nat.le_refl _) (by have := hB2.size; omega); have ho4 := Lib.hid ho4))
                go_roundw
                case rel =>
                  have ho5 := ho4.out
                  rw [show [] ++ X.take k ++ [(k : Int)] ++ X.drop k = rateTo (jd J) (jw J) (k + 1) by rw [HX.out]; simp] at ho5
                  obtain ⟨g5, rfl, hg5, -⟩ := ho5.some (by rw [rateTo_length]; omega)
                  exact ⟨k + 1, g5, c3, by omega, by go_num, rfl, ho5.more hbelW.size, hbelW.trans (hB3.mono hbelW.size)⟩
                case measure => simp [intOf]; omega
      · obtain rfl : k = n := by omega
        go_wp2_with fail
        go_ret2
        exact SlPost.mk ⟨by rw [← Hpv.out, if_pos rfl, rateV, Hn.out], Hpv.out⟩ hown hbel
theorem specPlanRateP (s : ByteArray) (A : Option Addr) (c : Nat) (J : List Jb) (hs : s.size ≤ maxLen) (hJn : J.length ≤ 1048576) (w : World) (hJ : Jbs w w.heap.size A J) :
    Calls Try.prog 25 #[.string s, .slice A J.length c] w (SpPost (rateR s.data.toList J) w) :=
  (specPlanRate s A c J hs hJn w hJ).mono fun _ _ h => h.sp
end Go.Proofs.Ytglncadfmomamaa
