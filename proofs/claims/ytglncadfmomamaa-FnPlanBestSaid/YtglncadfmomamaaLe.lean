/- The reference's least loss behind a beginning (l6rLeast), walked. -/
import Derived.Test.YtglncadfmomamaaLoss
import Derived.Test.YtglncadfmomamaaEnds
import Derived.Test.YtglncadfmomamaaApp
import Derived.Test.YtglncadfmomamaaLeP
namespace Go.Proofs.Ytglncadfmomamaa
set_option linter.unusedVariables false
set_option linter.unusedSimpArgs false
open Go.RowKit
/-- .. as a step of a region that draws its order. -/
theorem step_appK {w : World} {ops : Array Oper} {o : Oper} {a : Act} {K : Act → World → Prop} {Q : Exit → Act → World → Prop} {E : Prop} (hgd : o.guard = none) (s y : Operand)
    (ho : o.op = .call { callee := .builtin .append, args := #[s, y], argTypes := #[33, 33] })
    (B : Nat) (v : Value) (xs : List Int) (hs : a.eval s = v) (hown : Own w B v xs) (ad : Addr) (m c : Nat) (ys : List Int) (hx : a.eval y = .slice (some ad) m c) (hm : ys.length = m) (hc : ∀ j x, ys[j]? = some x → w.cell? (ad.add j) = some (.int .i64 x)) (h63 : xs.length + ys.length ≤ 2000000) (hbase : B ≤ w.heap.size) (r : Nat) (hr : (xs ++ ys).length = r)
    (h : ∀ A' c' w', Own w' B (.slice A' r c') (xs ++ ys) → w.grownBy w' v.ownBlock → K (a.put o.dst (.slice A' r c')) w') : if Region.wanted o (yielded ops a.tmps) = true then Oper.wp Try.prog o a w K Q else E := by
  have hw : Region.wanted o (yielded ops a.tmps) = true := by simp [Region.wanted, hgd]
  rw [if_pos hw]
  obtain ⟨i0, hi, hz0, hz1, hz2⟩ := info_parts intInfo
  subst hm
  refine wp_append_own w s y 33 ho B 3 i0 (.int .i64 0) 1 8 Try.underlying33 hi hz0 hz1 hz2 rfl (by decide) v xs.length (ivs xs) hs hown ad ys.length c (ivs ys) hx (by rw [ivs_length, Nat.mul_one]) ?_ ?_ ?_ ?_ hbase ?_
  · intro j u hj
    unfold ivs at hj
    rw [List.getElem?_map] at hj
    obtain ⟨x, hx, rfl⟩ := Option.map_eq_some_iff.1 hj
    exact hc j x hx
  · intro u hu
    unfold ivs at hu
    obtain ⟨x, _, rfl⟩ := List.mem_map.1 hu
    rfl
  · unfold maxLen; omega
  · omega
  · intro v' w' h1 h2 _
    have e : ivs xs ++ ivs ys = ivs (xs ++ ys) := by simp [ivs]
    rw [e] at h1
    have h1' : Own w' B v' (xs ++ ys) := by unfold Own; rw [List.length_append]; exact h1
    obtain ⟨A', c', e2, _⟩ := h1'.form
    rw [hr] at e2
    subst e2
    exact h A' c' w' h1' h2
set_option maxRecDepth 100000 in
set_option maxHeartbeats 4000000 in
theorem specLeast (s : ByteArray) (AJ : Option Addr) (c : Nat) (J : List Jb) (hs : s.size ≤ maxLen) (hE : ∀ x, -1 ≤ fcDay s.data.toList x ∧ fcDay s.data.toList x ≤ 30) (hJf : JobsFit J) (hJ6 : J.length ≤ 6) :
    ∀ (r : Nat) (dn : List Int) (wk : Int) (ad : Addr) (cD lo : Nat) (w : World), dn.length + r = J.length → 0 ≤ wk → wk ≤ 9 * dn.length → Jbs w w.heap.size AJ J → Iv w lo w.heap.size (some ad) dn → dn.length ≤ cD →
      Calls Try.prog 70 #[.string s, .slice AJ J.length c, .slice (some ad) dn.length cD, .int .i64 wk] w fun e w' => e = .returned (.int .i64 (leastG (fcDay s.data.toList) J J.length r dn wk)) ∧ Below w.heap.size w w'
  | 0, dn, wk, ad, cD, lo, w, hl, hw0, hw1, hJ, hD, hcD => by
    obtain ⟨n, hn⟩ : ∃ n, n = J.length := ⟨_, rfl⟩
    have hdn : dn.length = n := by omega
    have hv : leastG (fcDay s.data.toList) J J.length 0 dn wk = 0 := rfl
    rw [hv, hdn, ← hn]
    clear hv hn hdn hl hJ hD
    go_enter Try.func70, Try.ntmps70
    go_wp2_with fail
    go_ret
    exact ⟨rfl, Below.refl _ _⟩
  | r + 1, dn, wk, ad, cD, lo, w, hl, hw0, hw1, hJ, hD, hcD => by
    obtain ⟨n, hn⟩ : ∃ n, n = J.length := ⟨_, rfl⟩
    obtain ⟨nd, hnd⟩ : ∃ n, n = dn.length := ⟨_, rfl⟩
    have HE := Lib.hid hE
    have HJf := Lib.hid hJf
    have HJ := Lib.hid hJ
    have HD := Lib.hid hD
    have Hn := Lib.hid hn
    have Hnd := Lib.hid hnd
    have hndn : nd < n := by omega
    have hr6 : r ≤ 6 := by omega
    have hndb : ((nd : Int) == (n : Int)) = false := bF (by omega)
    have Hfd := Lib.hid (fun x w => specDay s hs x w)
    have Hh := Lib.hid (fun x w' (h : Iv w' lo w.heap.size (some ad) dn) => has_any (some ad) cD lo w.heap.size dn (by omega) x w' h)
    have Hb := Lib.hid (fun k => leastG_bd (E := fcDay s.data.toList) hE hJf r (dn ++ [(k : Int)]))
    have Hr := Lib.hid (fun (k : Nat) wk' AD' cD' lo' w' h1 h2 h3 h4 h5 => specLeast s AJ c J hs hE hJf hJ6 r (dn ++ [(k : Int)]) wk' AD' cD' lo' w' (by simp; omega) h1 h2 h3 h4 h5)
    obtain ⟨g, hg⟩ : ∃ g : Nat → Int, g = leastTo (fcDay s.data.toList) J n r dn wk := ⟨_, rfl⟩
    have Hg : Hid (leastG (fcDay s.data.toList) J J.length (r + 1) dn wk = g n) := by show _ = _; rw [hg, hn]; rfl
    have Hg0 : Hid (g 0 = -1) := by show _ = _; rw [hg]; rfl
    have Hgs : Hid (∀ k, g (k + 1) = if (k : Int) ∈ dn then g k else minB (g k) ((jAt J (k : Nat)).w * fcDay s.data.toList (wk + (jAt J (k : Nat)).d) + leastG (fcDay s.data.toList) J n r (dn ++ [(k : Int)]) (wk + (jAt J (k : Nat)).d))) := by
      intro k; rw [hg]; exact leastTo_succ _ _ _ _ _ _ k
    rw [Hg.out]
    rw [← hnd] at hw1 hcD Hh ⊢
    rw [← hn] at hJ6 ⊢
    clear hE hJf hJ hD hn hnd hl hg
    go_enter Try.func70, Try.ntmps70
    go_wp2_with fail
    go_loopw [9, 10] (fun b i wr => ∃ (k : Nat), k ≤ n ∧ i = .int .i64 k ∧ b = .int .i64 (g k) ∧ Below w.heap.size w wr) (fun _ i _ => n - (intOf i).toNat)
    case atStart => exact ⟨0, by omega, rfl, by rw [Hg0.out], Below.refl _ _⟩
    case round =>
      obtain ⟨k, hk, rfl, rfl, hbel⟩ := hrel
      by_cases hlt : k < n
      · have hhas := Lib.hid (Hh.out (k : Int) wr (HD.out.below hbel (Nat.le_refl _)))
        obtain ⟨gk, hgk⟩ : ∃ x, x = g k := ⟨_, rfl⟩
        have hgs := Hgs.out k
        rw [← hgk] at hgs ⊢
        by_cases hmem : (k : Int) ∈ dn
        · rw [if_pos hmem] at hgs
          rw [show dn.contains (k : Int) = true by simpa using hmem] at hhas
          replace hgs := Lib.hid hgs
          clear hmem hgk
          go_wp2_with fail
          refine hhas.out.mono ?_
          rintro e w1 ⟨rfl, rfl⟩
          go_wp2_with fail
          go_roundw
          case rel => exact ⟨k + 1, by omega, by go_num, by rw [hgs.out], hbel⟩
          case measure => simp [intOf]; omega
        · rw [if_neg hmem] at hgs
          rw [show dn.contains (k : Int) = false by simpa using hmem] at hhas
          obtain ⟨bj, oj, rfl, hbj, hcj⟩ := (HJ.out.below hbel) (by rw [← Hn.out]; omega)
          obtain ⟨y, hy⟩ : ∃ y, J[k]? = some y := ⟨J[k]'(by rw [← Hn.out]; exact hlt), List.getElem?_eq_getElem _⟩
          have hjat : jAt J (k : Int) = y := by unfold jAt; rw [Int.toNat_natCast, List.getD, hy]; rfl
          have hjf := HJf.out k (by rw [← Hn.out]; exact hlt)
          rw [hjat] at hgs hjf
          obtain ⟨hcd, hcw⟩ := hcj k y hy
          obtain ⟨d, hd⟩ : ∃ d, d = y.d := ⟨_, rfl⟩
          obtain ⟨wt, hwt⟩ : ∃ d, d = y.w := ⟨_, rfl⟩
          rw [← hd, ← hwt] at hgs hjf
          rw [← hd] at hcd
          rw [← hwt] at hcw
          obtain ⟨hd1, hd9, hw1', hw9⟩ := hjf
          have hEb := HE.out (wk + d)
          obtain ⟨ev, hev⟩ : ∃ e, e = fcDay s.data.toList (wk + d) := ⟨_, rfl⟩
          have hfd := Lib.hid (fun w => Hfd.out (wk + d) w)
          rw [← hev] at hgs hEb hfd
          obtain ⟨hm1, hm2⟩ := wE_bd hw1' hw9 hEb.1 hEb.2
          obtain ⟨lv, hlv⟩ : ∃ x, x = leastG (fcDay s.data.toList) J n r (dn ++ [(k : Int)]) (wk + d) := ⟨_, rfl⟩
          have hlb := Hb.out k (wk + d)
          rw [← Hn.out, ← hlv] at hlb
          rw [← hlv] at hgs
          replace hgs := Lib.hid hgs
          have hdc : Hid (∀ V, Below wr.heap.size wr V → ∀ j x, dn[j]? = some x → V.cell? (ad.add j) = some (.int .i64 x)) := fun V hV j x hx => by
            obtain ⟨b, off, e, h1, h2, h3⟩ := (HD.out.below hbel (Nat.le_refl _)) (by have := (List.getElem?_eq_some_iff.1 hx).1; omega)
            cases e
            rw [Addr.add_lit]
            exact (hV.cell (p := ⟨b, _, none⟩) (by have := hbel.size; show b < _; omega)).trans (h3 j x hx)
          have hrk : Hid (∀ (A' : Option Addr) (c' : Nat) (V : World), Below wr.heap.size wr V → Own V wr.heap.size (.slice A' (nd + 1) c') ([] ++ dn ++ [(k : Int)]) → Calls Try.prog 70 #[.string s, .slice (some ⟨bj, oj, none⟩) n c, .slice A' (nd + 1) c', .int .i64 (wk + d)] V fun e w' => e = .returned (.int .i64 lv) ∧ Below V.heap.size V w') := fun A' c' V hV ho => by
            rw [List.nil_append] at ho
            obtain ⟨g5, rfl, h1, h2⟩ := ho.some (by simp)
            have hlen : (dn ++ [(k : Int)]).length = nd + 1 := by rw [List.length_append, ← Hnd.out]; rfl
            have hroom : nd + 1 ≤ c' := by obtain ⟨_, c'', e, h1, _⟩ := ho.form; simp only [Value.slice.injEq] at e; obtain ⟨-, -, e3⟩ := e; omega
            have h := Hr.out k (wk + d) ⟨g5, 0, none⟩ c' wr.heap.size V (by omega) (by rw [hlen]; push_cast; omega) (((HJ.out.below hbel).below (hV.mono hbel.size)).more (Nat.le_trans hbel.size hV.size)) ho.iv (by rw [hlen]; exact hroom)
            rw [hlen, ← Hn.out, ← hlv] at h
            exact h
          replace hlv := Lib.hid hlv
          clear hmem hgk hcj hy hjat hd hwt hev
          go_wp2_with fail
          refine hhas.out.mono ?_
          rintro e w1 ⟨rfl, rfl⟩
          obtain ⟨V0, hV0'⟩ : ∃ V, V = wr.drew := ⟨_, rfl⟩
          have hV0 : Below wr.heap.size wr V0 := by rw [hV0']; exact below_drewN (Below.refl _ wr) 1
          have hmix : Try.prog.follows .mixedOrders = true := by kernel_rfl
          go_wp2_with fail
          have hbj : bj < wr.heap.size := Nat.lt_of_lt_of_le hbj hbel.size
          have hwm : IntKind.i64.wrap (wt * ev) = wt * ev := IntWalk.i64_in _ (by omega)
          have hws : IntKind.i64.wrap (wt * ev + lv) = wt * ev + lv := IntWalk.i64_in _ (by omega)
          refine Go.wp_mono (Q := fun e a' w' => match e with | .normal => (∃ v34 v35 v36 v37 v38 v39 v40 v41 v42 v43 v44 v45 v46 v47 v48 v49 v50 v51 v52 v53 : Value, a' = { tmps := #[.string s, .slice (some ⟨bj, oj, none⟩) n c, .slice (some ad) nd cD, .int .i64 wk, undef, undef, undef, undef, .int .i64 0, .int .i64 gk, .int .i64 k, .int .i64 (wk + d), .int .i64 (wt * ev + lv), .slice (some ad) nd cD, .int .i64 nd, .slice (some ⟨bj, oj, none⟩) n c, .int .i64 n, .bool false, .int .i64 k, .slice (some ⟨bj, oj, none⟩) n c, .int .i64 n, .bool true, u22, u23, .slice (some ad) nd cD, .int .i64 k, .bool false, .int .i64 wk, .slice (some ⟨bj, oj, none⟩) n c, .int .i64 k, .pointer (some ⟨bj, oj + k * 2, none⟩), .pointer (some ⟨bj, oj + k * 2, none⟩), .int .i64 d, .int .i64 (wk + d), v34, v35, v36, v37, v38, v39, v40, v41, v42, v43, v44, v45, v46, v47, v48, v49, v50, v51, v52, v53, u54, u55, u56, u57, u58, u59, u60, u61, undef], defers := [] } ∧ Below wr.heap.size wr w') | _ => False) ?_ ?_
          -- REGION
          · refine wp_region_held_drew (S := fun w' => w'.cell? ⟨bj, oj + k * 2 + 1, none⟩ = some (.int .i64 wt)) (by kernel_rfl) hcw (fun hHeld => ?_)
            rw [← hV0'] at hHeld ⊢
            clear hV0' hcd
            refine wpAnyH_take (i := 0) (v := .slice (some ⟨bj, oj, none⟩) n c) rfl (by kernel_rfl) (by kernel_rfl) (by kernel_rfl) (fun _ _ _ h => h) (Or.inl ⟨by kernel_rfl, fun w hSw => by (try dsimp only at hSw); go_simp⟩) hHeld ?_
            try simp only [Act.put, List.setIfInBounds_toArray, List.set_cons_zero, List.set_cons_succ]
            refine wpAnyH_take (i := 1) (v := .int .i64 k) rfl (by kernel_rfl) (by kernel_rfl) (by kernel_rfl) (fun _ _ _ h => h) (Or.inl ⟨by kernel_rfl, fun w hSw => by (try dsimp only at hSw); go_simp⟩) hHeld ?_
            try simp only [Act.put, List.setIfInBounds_toArray, List.set_cons_zero, List.set_cons_succ]
            refine wpAnyH_take (i := 2) (v := .pointer (some ⟨bj, oj + k * 2, none⟩)) rfl (by kernel_rfl) (by kernel_rfl) (by kernel_rfl) (fun _ _ _ h => h) (Or.inl ⟨by kernel_rfl, fun w hSw => by (try dsimp only at hSw); go_simp⟩) hHeld ?_
            try simp only [Act.put, List.setIfInBounds_toArray, List.set_cons_zero, List.set_cons_succ]
            refine wpAnyH_take (i := 3) (v := .pointer (some ⟨bj, oj + k * 2 + 1, none⟩)) rfl (by kernel_rfl) (by kernel_rfl) (by kernel_rfl) (fun _ _ _ h => h) (Or.inl ⟨by kernel_rfl, fun w hSw => by (try dsimp only at hSw); go_simp⟩) hHeld ?_
            try simp only [Act.put, List.setIfInBounds_toArray, List.set_cons_zero, List.set_cons_succ]
            refine wpAnyH_take (i := 4) (v := .int .i64 wt) rfl (by kernel_rfl) (by kernel_rfl) (by kernel_rfl) (fun _ _ _ h => h) (Or.inl ⟨by kernel_rfl, fun w hSw => by (try dsimp only at hSw); go_simp⟩) hHeld ?_
            try simp only [Act.put, List.setIfInBounds_toArray, List.set_cons_zero, List.set_cons_succ]
            refine wpAnyH_take (i := 5) (v := .string s) rfl (by kernel_rfl) (by kernel_rfl) (by kernel_rfl) (fun _ _ _ h => h) (Or.inl ⟨by kernel_rfl, fun w hSw => by (try dsimp only at hSw); go_simp⟩) hHeld ?_
            try simp only [Act.put, List.setIfInBounds_toArray, List.set_cons_zero, List.set_cons_succ]
            refine wpAnyH_take (i := 6) (v := .int .i64 (wk + d)) rfl (by kernel_rfl) (by kernel_rfl) (by kernel_rfl) (fun _ _ _ h => h) (Or.inl ⟨by kernel_rfl, fun w hSw => by (try dsimp only at hSw); go_simp⟩) hHeld ?_
            try simp only [Act.put, List.setIfInBounds_toArray, List.set_cons_zero, List.set_cons_succ]
            refine wpAnyH_take (i := 9) (v := .string s) rfl (by kernel_rfl) (by kernel_rfl) (by kernel_rfl) (fun _ _ _ h => h) (Or.inl ⟨by kernel_rfl, fun w hSw => by (try dsimp only at hSw); go_simp⟩) hHeld ?_
            try simp only [Act.put, List.setIfInBounds_toArray, List.set_cons_zero, List.set_cons_succ]
            refine wpAnyH_take (i := 10) (v := .slice (some ⟨bj, oj, none⟩) n c) rfl (by kernel_rfl) (by kernel_rfl) (by kernel_rfl) (fun _ _ _ h => h) (Or.inl ⟨by kernel_rfl, fun w hSw => by (try dsimp only at hSw); go_simp⟩) hHeld ?_
            try simp only [Act.put, List.setIfInBounds_toArray, List.set_cons_zero, List.set_cons_succ]
            refine wpAnyH_take (i := 12) (v := .slice (some ad) nd cD) rfl (by kernel_rfl) (by kernel_rfl) (by kernel_rfl) (fun _ _ _ h => h) (Or.inl ⟨by kernel_rfl, fun w hSw => by (try dsimp only at hSw); go_simp⟩) hHeld ?_
            try simp only [Act.put, List.setIfInBounds_toArray, List.set_cons_zero, List.set_cons_succ]
            refine wpAnyH_take (i := 14) (v := .int .i64 k) rfl (by kernel_rfl) (by kernel_rfl) (by kernel_rfl) (fun _ _ _ h => h) (Or.inl ⟨by kernel_rfl, fun w hSw => by (try dsimp only at hSw); go_simp⟩) hHeld ?_
            try simp only [Act.put, List.setIfInBounds_toArray, List.set_cons_zero, List.set_cons_succ]
            refine wpAnyH_take (i := 17) (v := .int .i64 (wk + d)) rfl (by kernel_rfl) (by kernel_rfl) (by kernel_rfl) (fun _ _ _ h => h) (Or.inl ⟨by kernel_rfl, fun w hSw => by (try dsimp only at hSw); go_simp⟩) hHeld ?_
            try simp only [Act.put, List.setIfInBounds_toArray, List.set_cons_zero, List.set_cons_succ]
            refine wpAnyH_ready (rs := [7, 11, 15]) (by kernel_rfl) (by simp) ?_
            refine AllReadyH.cons rfl (fun K hK => ?_) (AllReadyH.cons rfl (fun K hK => ?_) (AllReadyH.cons rfl (fun K hK => ?_) (AllReadyH.nil)))
            · go_simp
              go_at_call 72
              refine (hfd.out _).mono ?_
              rintro e wX ⟨rfl, hwX⟩
              show K _ wX
              rw [← hwX]
              refine hK.out _ _ ((hV0.cell (p := ⟨bj, _, none⟩) hbj).trans hcw) (fun hHeld => ?_)
              clear hK hwX
              try simp only [Act.put, List.setIfInBounds_toArray, List.set_cons_zero, List.set_cons_succ]
              refine wpAnyH_take (i := 8) (v := .int .i64 (wt * ev)) rfl (by kernel_rfl) (by kernel_rfl) (by kernel_rfl) (fun _ _ _ h => h) (Or.inl ⟨by kernel_rfl, fun w hSw => by (try dsimp only at hSw); go_simp⟩) hHeld ?_
              try simp only [Act.put, List.setIfInBounds_toArray, List.set_cons_zero, List.set_cons_succ]
              refine wpAnyH_ready (rs := [11, 15]) (by kernel_rfl) (by simp) ?_
              refine AllReadyH.cons rfl (fun K hK => ?_) (AllReadyH.cons rfl (fun K hK => ?_) (AllReadyH.nil))
              · go_simp
                obtain ⟨V1, hq1⟩ : ∃ V, V = V0.alloc (.cells #[] 3) := ⟨_, rfl⟩
                have hV1 : Below wr.heap.size wr V1 := by rw [hq1]; exact hV0.alloc hV0.size _
                have hz1 : Hid (V1.heap.size = V0.heap.size + 1) := by show _ = _; rw [hq1]; simp
                have ho1 : Own V1 wr.heap.size (.slice (some ⟨V0.heap.size, 0, none⟩) 0 0) [] := by rw [hq1]; exact Own.lit0 V0 _ hV0.size
                try rw [← hq1]
                refine hK.out _ _ ((hV1.cell (p := ⟨bj, _, none⟩) hbj).trans hcw) (fun hHeld => ?_)
                clear hK hq1
                try simp only [Act.put, List.setIfInBounds_toArray, List.set_cons_zero, List.set_cons_succ]
                refine wpAnyH_ready (rs := [13, 15]) (by kernel_rfl) (by simp) ?_
                refine AllReadyH.cons rfl (fun K hK => ?_) (AllReadyH.cons rfl (fun K hK => ?_) (AllReadyH.nil))
                · refine step_appK rfl _ _ rfl wr.heap.size _ [] rfl ho1 ad nd cD dn rfl Hnd.out.symm (hdc.out _ hV1) (by simp; rw [← Hnd.out]; omega) hV1.size nd (by simp [← Hnd.out]) ?_
                  intro A2 c2 V2 ho2 hg2
                  have hV2 : Below wr.heap.size wr V2 := ho1.grownBelow hg2 hV1 (Nat.le_refl _) hV1.size
                  have hgz2 : Hid (V1.heap.size ≤ V2.heap.size) := hg2.size
                  refine hK.out _ _ ((hV2.cell (p := ⟨bj, _, none⟩) hbj).trans hcw) (fun hHeld => ?_)
                  clear hK
                  try simp only [Act.put, List.setIfInBounds_toArray, List.set_cons_zero, List.set_cons_succ]
                  refine wpAnyH_ready (rs := [15]) (by kernel_rfl) (by simp) ?_
                  refine AllReadyH.cons rfl (fun K hK => ?_) (AllReadyH.nil)
                  · go_simp
                    obtain ⟨V3, hq3⟩ : ∃ V, V = V2.alloc (.cells #[.int .i64 (k : Int)] 3) := ⟨_, rfl⟩
                    have hV3 : Below wr.heap.size wr V3 := by rw [hq3]; exact hV2.alloc hV2.size _
                    have hz3 : Hid (V3.heap.size = V2.heap.size + 1) := by show _ = _; rw [hq3]; simp
                    have hc3 : V3.cell? ⟨V2.heap.size, 0, none⟩ = some (.int .i64 k) := by rw [hq3]; exact alloc1_cell rfl
                    have ho3 : Own V3 wr.heap.size (.slice A2 nd c2) ([] ++ dn) := by rw [hq3]; exact ho2.alloc _
                    try rw [← hq3]
                    refine hK.out _ _ ((hV3.cell (p := ⟨bj, _, none⟩) hbj).trans hcw) (fun hHeld => ?_)
                    clear hK hq3
                    try simp only [Act.put, List.setIfInBounds_toArray, List.set_cons_zero, List.set_cons_succ]
                    refine wpAnyH_ready (rs := [16]) (by kernel_rfl) (by simp) ?_
                    refine AllReadyH.cons rfl (fun K hK => ?_) (AllReadyH.nil)
                    · refine step_app1 rfl _ _ rfl wr.heap.size _ ([] ++ dn) rfl ho3 nd (by simp [← Hnd.out]) _ k rfl hc3 (by omega) hV3.size ?_
                      intro A4 c4 V4 ho4 hg4
                      have hV4 : Below wr.heap.size wr V4 := ho3.grownBelow hg4 hV3 (Nat.le_refl _) hV3.size
                      refine hK.out _ _ ((hV4.cell (p := ⟨bj, _, none⟩) hbj).trans hcw) (fun hHeld => ?_)
                      clear hK
                      try simp only [Act.put, List.setIfInBounds_toArray, List.set_cons_zero, List.set_cons_succ]
                      refine wpAnyH_ready (rs := [18]) (by kernel_rfl) (by simp) ?_
                      refine AllReadyH.cons rfl (fun K hK => ?_) (AllReadyH.nil)
                      · go_simp
                        go_at_call 70
                        refine (hrk.out A4 c4 V4 hV4 ho4).mono ?_
                        rintro e V5 ⟨rfl, hb5⟩
                        have hV5 : Below wr.heap.size wr V5 := hV4.trans (hb5.mono hV4.size)
                        show K _ V5
                        refine hK.out _ _ ((hV5.cell (p := ⟨bj, _, none⟩) hbj).trans hcw) (fun hHeld => ?_)
                        clear hK
                        try simp only [Act.put, List.setIfInBounds_toArray, List.set_cons_zero, List.set_cons_succ]
                        refine wpAnyH_take (i := 19) (v := .int .i64 (wt * ev + lv)) rfl (by kernel_rfl) (by kernel_rfl) (by kernel_rfl) (fun _ _ _ h => h) (Or.inl ⟨by kernel_rfl, fun w hSw => by (try dsimp only at hSw); go_simp⟩) hHeld ?_
                        try simp only [Act.put, List.setIfInBounds_toArray, List.set_cons_zero, List.set_cons_succ]
                        refine wpAnyH_take (i := 20) (v := .int .i64 (wt * ev + lv)) rfl (by kernel_rfl) (by kernel_rfl) (by kernel_rfl) (fun _ _ _ h => h) (Or.inl ⟨by kernel_rfl, fun w hSw => by (try dsimp only at hSw); go_simp⟩) hHeld ?_
                        try simp only [Act.put, List.setIfInBounds_toArray, List.set_cons_zero, List.set_cons_succ]
                        refine wpAnyH_done (by kernel_rfl) ?_ _
                        try simp only [Act.put, List.setIfInBounds_toArray, List.set_cons_zero, List.set_cons_succ]
                        exact ⟨_, _, _, _, _, _, _, _, _, _, _, _, _, _, _, _, _, _, _, _, rfl, hV5⟩
                · go_simp
                  obtain ⟨V2, hq2⟩ : ∃ V, V = V1.alloc (.cells #[.int .i64 (k : Int)] 3) := ⟨_, rfl⟩
                  have hV2 : Below wr.heap.size wr V2 := by rw [hq2]; exact hV1.alloc hV1.size _
                  have hz2 : Hid (V2.heap.size = V1.heap.size + 1) := by show _ = _; rw [hq2]; simp
                  have hc2 : V2.cell? ⟨V1.heap.size, 0, none⟩ = some (.int .i64 k) := by rw [hq2]; exact alloc1_cell rfl
                  have ho2 : Own V2 wr.heap.size (.slice (some ⟨V0.heap.size, 0, none⟩) 0 0) [] := by rw [hq2]; exact ho1.alloc _
                  try rw [← hq2]
                  refine hK.out _ _ ((hV2.cell (p := ⟨bj, _, none⟩) hbj).trans hcw) (fun hHeld => ?_)
                  clear hK hq2
                  try simp only [Act.put, List.setIfInBounds_toArray, List.set_cons_zero, List.set_cons_succ]
                  refine wpAnyH_ready (rs := [13]) (by kernel_rfl) (by simp) ?_
                  refine AllReadyH.cons rfl (fun K hK => ?_) (AllReadyH.nil)
                  · refine step_appK rfl _ _ rfl wr.heap.size _ [] rfl ho2 ad nd cD dn rfl Hnd.out.symm (hdc.out _ hV2) (by simp; rw [← Hnd.out]; omega) hV2.size nd (by simp [← Hnd.out]) ?_
                    intro A3 c3 V3 ho3 hg3
                    have hV3 : Below wr.heap.size wr V3 := ho2.grownBelow hg3 hV2 (Nat.le_refl _) hV2.size
                    have hgz3 : Hid (V2.heap.size ≤ V3.heap.size) := hg3.size
                    have hc3 : V3.cell? ⟨V1.heap.size, 0, none⟩ = some (.int .i64 k) := (World.cell?_of_block (hg3.block V1.heap.size (by have := hz1.out; have := hz2.out; omega) (fun e => by have := Option.some.inj (show some (V1.heap.size) = some (V0.heap.size) from e); have := hz1.out; have := hz2.out; omega))).trans hc2
                    refine hK.out _ _ ((hV3.cell (p := ⟨bj, _, none⟩) hbj).trans hcw) (fun hHeld => ?_)
                    clear hK
                    try simp only [Act.put, List.setIfInBounds_toArray, List.set_cons_zero, List.set_cons_succ]
                    refine wpAnyH_ready (rs := [16]) (by kernel_rfl) (by simp) ?_
                    refine AllReadyH.cons rfl (fun K hK => ?_) (AllReadyH.nil)
                    · refine step_app1 rfl _ _ rfl wr.heap.size _ ([] ++ dn) rfl ho3 nd (by simp [← Hnd.out]) _ k rfl hc3 (by omega) hV3.size ?_
                      intro A4 c4 V4 ho4 hg4
                      have hV4 : Below wr.heap.size wr V4 := ho3.grownBelow hg4 hV3 (Nat.le_refl _) hV3.size
                      refine hK.out _ _ ((hV4.cell (p := ⟨bj, _, none⟩) hbj).trans hcw) (fun hHeld => ?_)
                      clear hK
                      try simp only [Act.put, List.setIfInBounds_toArray, List.set_cons_zero, List.set_cons_succ]
                      refine wpAnyH_ready (rs := [18]) (by kernel_rfl) (by simp) ?_
                      refine AllReadyH.cons rfl (fun K hK => ?_) (AllReadyH.nil)
                      · go_simp
                        go_at_call 70
                        refine (hrk.out A4 c4 V4 hV4 ho4).mono ?_
                        rintro e V5 ⟨rfl, hb5⟩
                        have hV5 : Below wr.heap.size wr V5 := hV4.trans (hb5.mono hV4.size)
                        show K _ V5
                        refine hK.out _ _ ((hV5.cell (p := ⟨bj, _, none⟩) hbj).trans hcw) (fun hHeld => ?_)
                        clear hK
                        try simp only [Act.put, List.setIfInBounds_toArray, List.set_cons_zero, List.set_cons_succ]
                        refine wpAnyH_take (i := 19) (v := .int .i64 (wt * ev + lv)) rfl (by kernel_rfl) (by kernel_rfl) (by kernel_rfl) (fun _ _ _ h => h) (Or.inl ⟨by kernel_rfl, fun w hSw => by (try dsimp only at hSw); go_simp⟩) hHeld ?_
                        try simp only [Act.put, List.setIfInBounds_toArray, List.set_cons_zero, List.set_cons_succ]
                        refine wpAnyH_take (i := 20) (v := .int .i64 (wt * ev + lv)) rfl (by kernel_rfl) (by kernel_rfl) (by kernel_rfl) (fun _ _ _ h => h) (Or.inl ⟨by kernel_rfl, fun w hSw => by (try dsimp only at hSw); go_simp⟩) hHeld ?_
                        try simp only [Act.put, List.setIfInBounds_toArray, List.set_cons_zero, List.set_cons_succ]
                        refine wpAnyH_done (by kernel_rfl) ?_ _
                        try simp only [Act.put, List.setIfInBounds_toArray, List.set_cons_zero, List.set_cons_succ]
                        exact ⟨_, _, _, _, _, _, _, _, _, _, _, _, _, _, _, _, _, _, _, _, rfl, hV5⟩
              · go_simp
                obtain ⟨V1, hq1⟩ : ∃ V, V = V0.alloc (.cells #[.int .i64 (k : Int)] 3) := ⟨_, rfl⟩
                have hV1 : Below wr.heap.size wr V1 := by rw [hq1]; exact hV0.alloc hV0.size _
                have hz1 : Hid (V1.heap.size = V0.heap.size + 1) := by show _ = _; rw [hq1]; simp
                have hc1 : V1.cell? ⟨V0.heap.size, 0, none⟩ = some (.int .i64 k) := by rw [hq1]; exact alloc1_cell rfl
                try rw [← hq1]
                refine hK.out _ _ ((hV1.cell (p := ⟨bj, _, none⟩) hbj).trans hcw) (fun hHeld => ?_)
                clear hK hq1
                try simp only [Act.put, List.setIfInBounds_toArray, List.set_cons_zero, List.set_cons_succ]
                refine wpAnyH_ready (rs := [11]) (by kernel_rfl) (by simp) ?_
                refine AllReadyH.cons rfl (fun K hK => ?_) (AllReadyH.nil)
                · go_simp
                  obtain ⟨V2, hq2⟩ : ∃ V, V = V1.alloc (.cells #[] 3) := ⟨_, rfl⟩
                  have hV2 : Below wr.heap.size wr V2 := by rw [hq2]; exact hV1.alloc hV1.size _
                  have hz2 : Hid (V2.heap.size = V1.heap.size + 1) := by show _ = _; rw [hq2]; simp
                  have ho2 : Own V2 wr.heap.size (.slice (some ⟨V1.heap.size, 0, none⟩) 0 0) [] := by rw [hq2]; exact Own.lit0 V1 _ hV1.size
                  have hc2 : V2.cell? ⟨V0.heap.size, 0, none⟩ = some (.int .i64 k) := by rw [hq2]; exact (World.cell?_of_block (Below.heap_alloc _ _ _ (by show V0.heap.size < _; have := hz1.out; omega))).trans hc1
                  try rw [← hq2]
                  refine hK.out _ _ ((hV2.cell (p := ⟨bj, _, none⟩) hbj).trans hcw) (fun hHeld => ?_)
                  clear hK hq2
                  try simp only [Act.put, List.setIfInBounds_toArray, List.set_cons_zero, List.set_cons_succ]
                  refine wpAnyH_ready (rs := [13]) (by kernel_rfl) (by simp) ?_
                  refine AllReadyH.cons rfl (fun K hK => ?_) (AllReadyH.nil)
                  · refine step_appK rfl _ _ rfl wr.heap.size _ [] rfl ho2 ad nd cD dn rfl Hnd.out.symm (hdc.out _ hV2) (by simp; rw [← Hnd.out]; omega) hV2.size nd (by simp [← Hnd.out]) ?_
                    intro A3 c3 V3 ho3 hg3
                    have hV3 : Below wr.heap.size wr V3 := ho2.grownBelow hg3 hV2 (Nat.le_refl _) hV2.size
                    have hgz3 : Hid (V2.heap.size ≤ V3.heap.size) := hg3.size
                    have hc3 : V3.cell? ⟨V0.heap.size, 0, none⟩ = some (.int .i64 k) := (World.cell?_of_block (hg3.block V0.heap.size (by have := hz1.out; have := hz2.out; omega) (fun e => by have := Option.some.inj (show some (V0.heap.size) = some (V1.heap.size) from e); have := hz1.out; have := hz2.out; omega))).trans hc2
                    refine hK.out _ _ ((hV3.cell (p := ⟨bj, _, none⟩) hbj).trans hcw) (fun hHeld => ?_)
                    clear hK
                    try simp only [Act.put, List.setIfInBounds_toArray, List.set_cons_zero, List.set_cons_succ]
                    refine wpAnyH_ready (rs := [16]) (by kernel_rfl) (by simp) ?_
                    refine AllReadyH.cons rfl (fun K hK => ?_) (AllReadyH.nil)
                    · refine step_app1 rfl _ _ rfl wr.heap.size _ ([] ++ dn) rfl ho3 nd (by simp [← Hnd.out]) _ k rfl hc3 (by omega) hV3.size ?_
                      intro A4 c4 V4 ho4 hg4
                      have hV4 : Below wr.heap.size wr V4 := ho3.grownBelow hg4 hV3 (Nat.le_refl _) hV3.size
                      refine hK.out _ _ ((hV4.cell (p := ⟨bj, _, none⟩) hbj).trans hcw) (fun hHeld => ?_)
                      clear hK
                      try simp only [Act.put, List.setIfInBounds_toArray, List.set_cons_zero, List.set_cons_succ]
                      refine wpAnyH_ready (rs := [18]) (by kernel_rfl) (by simp) ?_
                      refine AllReadyH.cons rfl (fun K hK => ?_) (AllReadyH.nil)
                      · go_simp
                        go_at_call 70
                        refine (hrk.out A4 c4 V4 hV4 ho4).mono ?_
                        rintro e V5 ⟨rfl, hb5⟩
                        have hV5 : Below wr.heap.size wr V5 := hV4.trans (hb5.mono hV4.size)
                        show K _ V5
                        refine hK.out _ _ ((hV5.cell (p := ⟨bj, _, none⟩) hbj).trans hcw) (fun hHeld => ?_)
                        clear hK
                        try simp only [Act.put, List.setIfInBounds_toArray, List.set_cons_zero, List.set_cons_succ]
                        refine wpAnyH_take (i := 19) (v := .int .i64 (wt * ev + lv)) rfl (by kernel_rfl) (by kernel_rfl) (by kernel_rfl) (fun _ _ _ h => h) (Or.inl ⟨by kernel_rfl, fun w hSw => by (try dsimp only at hSw); go_simp⟩) hHeld ?_
                        try simp only [Act.put, List.setIfInBounds_toArray, List.set_cons_zero, List.set_cons_succ]
                        refine wpAnyH_take (i := 20) (v := .int .i64 (wt * ev + lv)) rfl (by kernel_rfl) (by kernel_rfl) (by kernel_rfl) (fun _ _ _ h => h) (Or.inl ⟨by kernel_rfl, fun w hSw => by (try dsimp only at hSw); go_simp⟩) hHeld ?_
                        try simp only [Act.put, List.setIfInBounds_toArray, List.set_cons_zero, List.set_cons_succ]
                        refine wpAnyH_done (by kernel_rfl) ?_ _
                        try simp only [Act.put, List.setIfInBounds_toArray, List.set_cons_zero, List.set_cons_succ]
                        exact ⟨_, _, _, _, _, _, _, _, _, _, _, _, _, _, _, _, _, _, _, _, rfl, hV5⟩
            · go_simp
              obtain ⟨V1, hq1⟩ : ∃ V, V = V0.alloc (.cells #[] 3) := ⟨_, rfl⟩
              have hV1 : Below wr.heap.size wr V1 := by rw [hq1]; exact hV0.alloc hV0.size _
              have hz1 : Hid (V1.heap.size = V0.heap.size + 1) := by show _ = _; rw [hq1]; simp
              have ho1 : Own V1 wr.heap.size (.slice (some ⟨V0.heap.size, 0, none⟩) 0 0) [] := by rw [hq1]; exact Own.lit0 V0 _ hV0.size
              try rw [← hq1]
              refine hK.out _ _ ((hV1.cell (p := ⟨bj, _, none⟩) hbj).trans hcw) (fun hHeld => ?_)
              clear hK hq1
              try simp only [Act.put, List.setIfInBounds_toArray, List.set_cons_zero, List.set_cons_succ]
              refine wpAnyH_ready (rs := [7, 15]) (by kernel_rfl) (by simp) ?_
              refine AllReadyH.cons rfl (fun K hK => ?_) (AllReadyH.cons rfl (fun K hK => ?_) (AllReadyH.nil))
              · go_simp
                go_at_call 72
                refine (hfd.out _).mono ?_
                rintro e wX ⟨rfl, hwX⟩
                show K _ wX
                rw [← hwX]
                refine hK.out _ _ ((hV1.cell (p := ⟨bj, _, none⟩) hbj).trans hcw) (fun hHeld => ?_)
                clear hK hwX
                try simp only [Act.put, List.setIfInBounds_toArray, List.set_cons_zero, List.set_cons_succ]
                refine wpAnyH_take (i := 8) (v := .int .i64 (wt * ev)) rfl (by kernel_rfl) (by kernel_rfl) (by kernel_rfl) (fun _ _ _ h => h) (Or.inl ⟨by kernel_rfl, fun w hSw => by (try dsimp only at hSw); go_simp⟩) hHeld ?_
                try simp only [Act.put, List.setIfInBounds_toArray, List.set_cons_zero, List.set_cons_succ]
                refine wpAnyH_ready (rs := [13, 15]) (by kernel_rfl) (by simp) ?_
                refine AllReadyH.cons rfl (fun K hK => ?_) (AllReadyH.cons rfl (fun K hK => ?_) (AllReadyH.nil))
                · refine step_appK rfl _ _ rfl wr.heap.size _ [] rfl ho1 ad nd cD dn rfl Hnd.out.symm (hdc.out _ hV1) (by simp; rw [← Hnd.out]; omega) hV1.size nd (by simp [← Hnd.out]) ?_
                  intro A2 c2 V2 ho2 hg2
                  have hV2 : Below wr.heap.size wr V2 := ho1.grownBelow hg2 hV1 (Nat.le_refl _) hV1.size
                  have hgz2 : Hid (V1.heap.size ≤ V2.heap.size) := hg2.size
                  refine hK.out _ _ ((hV2.cell (p := ⟨bj, _, none⟩) hbj).trans hcw) (fun hHeld => ?_)
                  clear hK
                  try simp only [Act.put, List.setIfInBounds_toArray, List.set_cons_zero, List.set_cons_succ]
                  refine wpAnyH_ready (rs := [15]) (by kernel_rfl) (by simp) ?_
                  refine AllReadyH.cons rfl (fun K hK => ?_) (AllReadyH.nil)
                  · go_simp
                    obtain ⟨V3, hq3⟩ : ∃ V, V = V2.alloc (.cells #[.int .i64 (k : Int)] 3) := ⟨_, rfl⟩
                    have hV3 : Below wr.heap.size wr V3 := by rw [hq3]; exact hV2.alloc hV2.size _
                    have hz3 : Hid (V3.heap.size = V2.heap.size + 1) := by show _ = _; rw [hq3]; simp
                    have hc3 : V3.cell? ⟨V2.heap.size, 0, none⟩ = some (.int .i64 k) := by rw [hq3]; exact alloc1_cell rfl
                    have ho3 : Own V3 wr.heap.size (.slice A2 nd c2) ([] ++ dn) := by rw [hq3]; exact ho2.alloc _
                    try rw [← hq3]
                    refine hK.out _ _ ((hV3.cell (p := ⟨bj, _, none⟩) hbj).trans hcw) (fun hHeld => ?_)
                    clear hK hq3
                    try simp only [Act.put, List.setIfInBounds_toArray, List.set_cons_zero, List.set_cons_succ]
                    refine wpAnyH_ready (rs := [16]) (by kernel_rfl) (by simp) ?_
                    refine AllReadyH.cons rfl (fun K hK => ?_) (AllReadyH.nil)
                    · refine step_app1 rfl _ _ rfl wr.heap.size _ ([] ++ dn) rfl ho3 nd (by simp [← Hnd.out]) _ k rfl hc3 (by omega) hV3.size ?_
                      intro A4 c4 V4 ho4 hg4
                      have hV4 : Below wr.heap.size wr V4 := ho3.grownBelow hg4 hV3 (Nat.le_refl _) hV3.size
                      refine hK.out _ _ ((hV4.cell (p := ⟨bj, _, none⟩) hbj).trans hcw) (fun hHeld => ?_)
                      clear hK
                      try simp only [Act.put, List.setIfInBounds_toArray, List.set_cons_zero, List.set_cons_succ]
                      refine wpAnyH_ready (rs := [18]) (by kernel_rfl) (by simp) ?_
                      refine AllReadyH.cons rfl (fun K hK => ?_) (AllReadyH.nil)
                      · go_simp
                        go_at_call 70
                        refine (hrk.out A4 c4 V4 hV4 ho4).mono ?_
                        rintro e V5 ⟨rfl, hb5⟩
                        have hV5 : Below wr.heap.size wr V5 := hV4.trans (hb5.mono hV4.size)
                        show K _ V5
                        refine hK.out _ _ ((hV5.cell (p := ⟨bj, _, none⟩) hbj).trans hcw) (fun hHeld => ?_)
                        clear hK
                        try simp only [Act.put, List.setIfInBounds_toArray, List.set_cons_zero, List.set_cons_succ]
                        refine wpAnyH_take (i := 19) (v := .int .i64 (wt * ev + lv)) rfl (by kernel_rfl) (by kernel_rfl) (by kernel_rfl) (fun _ _ _ h => h) (Or.inl ⟨by kernel_rfl, fun w hSw => by (try dsimp only at hSw); go_simp⟩) hHeld ?_
                        try simp only [Act.put, List.setIfInBounds_toArray, List.set_cons_zero, List.set_cons_succ]
                        refine wpAnyH_take (i := 20) (v := .int .i64 (wt * ev + lv)) rfl (by kernel_rfl) (by kernel_rfl) (by kernel_rfl) (fun _ _ _ h => h) (Or.inl ⟨by kernel_rfl, fun w hSw => by (try dsimp only at hSw); go_simp⟩) hHeld ?_
                        try simp only [Act.put, List.setIfInBounds_toArray, List.set_cons_zero, List.set_cons_succ]
                        refine wpAnyH_done (by kernel_rfl) ?_ _
                        try simp only [Act.put, List.setIfInBounds_toArray, List.set_cons_zero, List.set_cons_succ]
                        exact ⟨_, _, _, _, _, _, _, _, _, _, _, _, _, _, _, _, _, _, _, _, rfl, hV5⟩
                · go_simp
                  obtain ⟨V2, hq2⟩ : ∃ V, V = V1.alloc (.cells #[.int .i64 (k : Int)] 3) := ⟨_, rfl⟩
                  have hV2 : Below wr.heap.size wr V2 := by rw [hq2]; exact hV1.alloc hV1.size _
                  have hz2 : Hid (V2.heap.size = V1.heap.size + 1) := by show _ = _; rw [hq2]; simp
                  have hc2 : V2.cell? ⟨V1.heap.size, 0, none⟩ = some (.int .i64 k) := by rw [hq2]; exact alloc1_cell rfl
                  have ho2 : Own V2 wr.heap.size (.slice (some ⟨V0.heap.size, 0, none⟩) 0 0) [] := by rw [hq2]; exact ho1.alloc _
                  try rw [← hq2]
                  refine hK.out _ _ ((hV2.cell (p := ⟨bj, _, none⟩) hbj).trans hcw) (fun hHeld => ?_)
                  clear hK hq2
                  try simp only [Act.put, List.setIfInBounds_toArray, List.set_cons_zero, List.set_cons_succ]
                  refine wpAnyH_ready (rs := [13]) (by kernel_rfl) (by simp) ?_
                  refine AllReadyH.cons rfl (fun K hK => ?_) (AllReadyH.nil)
                  · refine step_appK rfl _ _ rfl wr.heap.size _ [] rfl ho2 ad nd cD dn rfl Hnd.out.symm (hdc.out _ hV2) (by simp; rw [← Hnd.out]; omega) hV2.size nd (by simp [← Hnd.out]) ?_
                    intro A3 c3 V3 ho3 hg3
                    have hV3 : Below wr.heap.size wr V3 := ho2.grownBelow hg3 hV2 (Nat.le_refl _) hV2.size
                    have hgz3 : Hid (V2.heap.size ≤ V3.heap.size) := hg3.size
                    have hc3 : V3.cell? ⟨V1.heap.size, 0, none⟩ = some (.int .i64 k) := (World.cell?_of_block (hg3.block V1.heap.size (by have := hz1.out; have := hz2.out; omega) (fun e => by have := Option.some.inj (show some (V1.heap.size) = some (V0.heap.size) from e); have := hz1.out; have := hz2.out; omega))).trans hc2
                    refine hK.out _ _ ((hV3.cell (p := ⟨bj, _, none⟩) hbj).trans hcw) (fun hHeld => ?_)
                    clear hK
                    try simp only [Act.put, List.setIfInBounds_toArray, List.set_cons_zero, List.set_cons_succ]
                    refine wpAnyH_ready (rs := [16]) (by kernel_rfl) (by simp) ?_
                    refine AllReadyH.cons rfl (fun K hK => ?_) (AllReadyH.nil)
                    · refine step_app1 rfl _ _ rfl wr.heap.size _ ([] ++ dn) rfl ho3 nd (by simp [← Hnd.out]) _ k rfl hc3 (by omega) hV3.size ?_
                      intro A4 c4 V4 ho4 hg4
                      have hV4 : Below wr.heap.size wr V4 := ho3.grownBelow hg4 hV3 (Nat.le_refl _) hV3.size
                      refine hK.out _ _ ((hV4.cell (p := ⟨bj, _, none⟩) hbj).trans hcw) (fun hHeld => ?_)
                      clear hK
                      try simp only [Act.put, List.setIfInBounds_toArray, List.set_cons_zero, List.set_cons_succ]
                      refine wpAnyH_ready (rs := [18]) (by kernel_rfl) (by simp) ?_
                      refine AllReadyH.cons rfl (fun K hK => ?_) (AllReadyH.nil)
                      · go_simp
                        go_at_call 70
                        refine (hrk.out A4 c4 V4 hV4 ho4).mono ?_
                        rintro e V5 ⟨rfl, hb5⟩
                        have hV5 : Below wr.heap.size wr V5 := hV4.trans (hb5.mono hV4.size)
                        show K _ V5
                        refine hK.out _ _ ((hV5.cell (p := ⟨bj, _, none⟩) hbj).trans hcw) (fun hHeld => ?_)
                        clear hK
                        try simp only [Act.put, List.setIfInBounds_toArray, List.set_cons_zero, List.set_cons_succ]
                        refine wpAnyH_take (i := 19) (v := .int .i64 (wt * ev + lv)) rfl (by kernel_rfl) (by kernel_rfl) (by kernel_rfl) (fun _ _ _ h => h) (Or.inl ⟨by kernel_rfl, fun w hSw => by (try dsimp only at hSw); go_simp⟩) hHeld ?_
                        try simp only [Act.put, List.setIfInBounds_toArray, List.set_cons_zero, List.set_cons_succ]
                        refine wpAnyH_take (i := 20) (v := .int .i64 (wt * ev + lv)) rfl (by kernel_rfl) (by kernel_rfl) (by kernel_rfl) (fun _ _ _ h => h) (Or.inl ⟨by kernel_rfl, fun w hSw => by (try dsimp only at hSw); go_simp⟩) hHeld ?_
                        try simp only [Act.put, List.setIfInBounds_toArray, List.set_cons_zero, List.set_cons_succ]
                        refine wpAnyH_done (by kernel_rfl) ?_ _
                        try simp only [Act.put, List.setIfInBounds_toArray, List.set_cons_zero, List.set_cons_succ]
                        exact ⟨_, _, _, _, _, _, _, _, _, _, _, _, _, _, _, _, _, _, _, _, rfl, hV5⟩
              · go_simp
                obtain ⟨V2, hq2⟩ : ∃ V, V = V1.alloc (.cells #[.int .i64 (k : Int)] 3) := ⟨_, rfl⟩
                have hV2 : Below wr.heap.size wr V2 := by rw [hq2]; exact hV1.alloc hV1.size _
                have hz2 : Hid (V2.heap.size = V1.heap.size + 1) := by show _ = _; rw [hq2]; simp
                have hc2 : V2.cell? ⟨V1.heap.size, 0, none⟩ = some (.int .i64 k) := by rw [hq2]; exact alloc1_cell rfl
                have ho2 : Own V2 wr.heap.size (.slice (some ⟨V0.heap.size, 0, none⟩) 0 0) [] := by rw [hq2]; exact ho1.alloc _
                try rw [← hq2]
                refine hK.out _ _ ((hV2.cell (p := ⟨bj, _, none⟩) hbj).trans hcw) (fun hHeld => ?_)
                clear hK hq2
                try simp only [Act.put, List.setIfInBounds_toArray, List.set_cons_zero, List.set_cons_succ]
                refine wpAnyH_ready (rs := [7]) (by kernel_rfl) (by simp) ?_
                refine AllReadyH.cons rfl (fun K hK => ?_) (AllReadyH.nil)
                · go_simp
                  go_at_call 72
                  refine (hfd.out _).mono ?_
                  rintro e wX ⟨rfl, hwX⟩
                  show K _ wX
                  rw [← hwX]
                  refine hK.out _ _ ((hV2.cell (p := ⟨bj, _, none⟩) hbj).trans hcw) (fun hHeld => ?_)
                  clear hK hwX
                  try simp only [Act.put, List.setIfInBounds_toArray, List.set_cons_zero, List.set_cons_succ]
                  refine wpAnyH_take (i := 8) (v := .int .i64 (wt * ev)) rfl (by kernel_rfl) (by kernel_rfl) (by kernel_rfl) (fun _ _ _ h => h) (Or.inl ⟨by kernel_rfl, fun w hSw => by (try dsimp only at hSw); go_simp⟩) hHeld ?_
                  try simp only [Act.put, List.setIfInBounds_toArray, List.set_cons_zero, List.set_cons_succ]
                  refine wpAnyH_ready (rs := [13]) (by kernel_rfl) (by simp) ?_
                  refine AllReadyH.cons rfl (fun K hK => ?_) (AllReadyH.nil)
                  · refine step_appK rfl _ _ rfl wr.heap.size _ [] rfl ho2 ad nd cD dn rfl Hnd.out.symm (hdc.out _ hV2) (by simp; rw [← Hnd.out]; omega) hV2.size nd (by simp [← Hnd.out]) ?_
                    intro A3 c3 V3 ho3 hg3
                    have hV3 : Below wr.heap.size wr V3 := ho2.grownBelow hg3 hV2 (Nat.le_refl _) hV2.size
                    have hgz3 : Hid (V2.heap.size ≤ V3.heap.size) := hg3.size
                    have hc3 : V3.cell? ⟨V1.heap.size, 0, none⟩ = some (.int .i64 k) := (World.cell?_of_block (hg3.block V1.heap.size (by have := hz1.out; have := hz2.out; omega) (fun e => by have := Option.some.inj (show some (V1.heap.size) = some (V0.heap.size) from e); have := hz1.out; have := hz2.out; omega))).trans hc2
                    refine hK.out _ _ ((hV3.cell (p := ⟨bj, _, none⟩) hbj).trans hcw) (fun hHeld => ?_)
                    clear hK
                    try simp only [Act.put, List.setIfInBounds_toArray, List.set_cons_zero, List.set_cons_succ]
                    refine wpAnyH_ready (rs := [16]) (by kernel_rfl) (by simp) ?_
                    refine AllReadyH.cons rfl (fun K hK => ?_) (AllReadyH.nil)
                    · refine step_app1 rfl _ _ rfl wr.heap.size _ ([] ++ dn) rfl ho3 nd (by simp [← Hnd.out]) _ k rfl hc3 (by omega) hV3.size ?_
                      intro A4 c4 V4 ho4 hg4
                      have hV4 : Below wr.heap.size wr V4 := ho3.grownBelow hg4 hV3 (Nat.le_refl _) hV3.size
                      refine hK.out _ _ ((hV4.cell (p := ⟨bj, _, none⟩) hbj).trans hcw) (fun hHeld => ?_)
                      clear hK
                      try simp only [Act.put, List.setIfInBounds_toArray, List.set_cons_zero, List.set_cons_succ]
                      refine wpAnyH_ready (rs := [18]) (by kernel_rfl) (by simp) ?_
                      refine AllReadyH.cons rfl (fun K hK => ?_) (AllReadyH.nil)
                      · go_simp
                        go_at_call 70
                        refine (hrk.out A4 c4 V4 hV4 ho4).mono ?_
                        rintro e V5 ⟨rfl, hb5⟩
                        have hV5 : Below wr.heap.size wr V5 := hV4.trans (hb5.mono hV4.size)
                        show K _ V5
                        refine hK.out _ _ ((hV5.cell (p := ⟨bj, _, none⟩) hbj).trans hcw) (fun hHeld => ?_)
                        clear hK
                        try simp only [Act.put, List.setIfInBounds_toArray, List.set_cons_zero, List.set_cons_succ]
                        refine wpAnyH_take (i := 19) (v := .int .i64 (wt * ev + lv)) rfl (by kernel_rfl) (by kernel_rfl) (by kernel_rfl) (fun _ _ _ h => h) (Or.inl ⟨by kernel_rfl, fun w hSw => by (try dsimp only at hSw); go_simp⟩) hHeld ?_
                        try simp only [Act.put, List.setIfInBounds_toArray, List.set_cons_zero, List.set_cons_succ]
                        refine wpAnyH_take (i := 20) (v := .int .i64 (wt * ev + lv)) rfl (by kernel_rfl) (by kernel_rfl) (by kernel_rfl) (fun _ _ _ h => h) (Or.inl ⟨by kernel_rfl, fun w hSw => by (try dsimp only at hSw); go_simp⟩) hHeld ?_
                        try simp only [Act.put, List.setIfInBounds_toArray, List.set_cons_zero, List.set_cons_succ]
                        refine wpAnyH_done (by kernel_rfl) ?_ _
                        try simp only [Act.put, List.setIfInBounds_toArray, List.set_cons_zero, List.set_cons_succ]
                        exact ⟨_, _, _, _, _, _, _, _, _, _, _, _, _, _, _, _, _, _, _, _, rfl, hV5⟩
            · go_simp
              obtain ⟨V1, hq1⟩ : ∃ V, V = V0.alloc (.cells #[.int .i64 (k : Int)] 3) := ⟨_, rfl⟩
              have hV1 : Below wr.heap.size wr V1 := by rw [hq1]; exact hV0.alloc hV0.size _
              have hz1 : Hid (V1.heap.size = V0.heap.size + 1) := by show _ = _; rw [hq1]; simp
              have hc1 : V1.cell? ⟨V0.heap.size, 0, none⟩ = some (.int .i64 k) := by rw [hq1]; exact alloc1_cell rfl
              try rw [← hq1]
              refine hK.out _ _ ((hV1.cell (p := ⟨bj, _, none⟩) hbj).trans hcw) (fun hHeld => ?_)
              clear hK hq1
              try simp only [Act.put, List.setIfInBounds_toArray, List.set_cons_zero, List.set_cons_succ]
              refine wpAnyH_ready (rs := [7, 11]) (by kernel_rfl) (by simp) ?_
              refine AllReadyH.cons rfl (fun K hK => ?_) (AllReadyH.cons rfl (fun K hK => ?_) (AllReadyH.nil))
              · go_simp
                go_at_call 72
                refine (hfd.out _).mono ?_
                rintro e wX ⟨rfl, hwX⟩
                show K _ wX
                rw [← hwX]
                refine hK.out _ _ ((hV1.cell (p := ⟨bj, _, none⟩) hbj).trans hcw) (fun hHeld => ?_)
                clear hK hwX
                try simp only [Act.put, List.setIfInBounds_toArray, List.set_cons_zero, List.set_cons_succ]
                refine wpAnyH_take (i := 8) (v := .int .i64 (wt * ev)) rfl (by kernel_rfl) (by kernel_rfl) (by kernel_rfl) (fun _ _ _ h => h) (Or.inl ⟨by kernel_rfl, fun w hSw => by (try dsimp only at hSw); go_simp⟩) hHeld ?_
                try simp only [Act.put, List.setIfInBounds_toArray, List.set_cons_zero, List.set_cons_succ]
                refine wpAnyH_ready (rs := [11]) (by kernel_rfl) (by simp) ?_
                refine AllReadyH.cons rfl (fun K hK => ?_) (AllReadyH.nil)
                · go_simp
                  obtain ⟨V2, hq2⟩ : ∃ V, V = V1.alloc (.cells #[] 3) := ⟨_, rfl⟩
                  have hV2 : Below wr.heap.size wr V2 := by rw [hq2]; exact hV1.alloc hV1.size _
                  have hz2 : Hid (V2.heap.size = V1.heap.size + 1) := by show _ = _; rw [hq2]; simp
                  have ho2 : Own V2 wr.heap.size (.slice (some ⟨V1.heap.size, 0, none⟩) 0 0) [] := by rw [hq2]; exact Own.lit0 V1 _ hV1.size
                  have hc2 : V2.cell? ⟨V0.heap.size, 0, none⟩ = some (.int .i64 k) := by rw [hq2]; exact (World.cell?_of_block (Below.heap_alloc _ _ _ (by show V0.heap.size < _; have := hz1.out; omega))).trans hc1
                  try rw [← hq2]
                  refine hK.out _ _ ((hV2.cell (p := ⟨bj, _, none⟩) hbj).trans hcw) (fun hHeld => ?_)
                  clear hK hq2
                  try simp only [Act.put, List.setIfInBounds_toArray, List.set_cons_zero, List.set_cons_succ]
                  refine wpAnyH_ready (rs := [13]) (by kernel_rfl) (by simp) ?_
                  refine AllReadyH.cons rfl (fun K hK => ?_) (AllReadyH.nil)
                  · refine step_appK rfl _ _ rfl wr.heap.size _ [] rfl ho2 ad nd cD dn rfl Hnd.out.symm (hdc.out _ hV2) (by simp; rw [← Hnd.out]; omega) hV2.size nd (by simp [← Hnd.out]) ?_
                    intro A3 c3 V3 ho3 hg3
                    have hV3 : Below wr.heap.size wr V3 := ho2.grownBelow hg3 hV2 (Nat.le_refl _) hV2.size
                    have hgz3 : Hid (V2.heap.size ≤ V3.heap.size) := hg3.size
                    have hc3 : V3.cell? ⟨V0.heap.size, 0, none⟩ = some (.int .i64 k) := (World.cell?_of_block (hg3.block V0.heap.size (by have := hz1.out; have := hz2.out; omega) (fun e => by have := Option.some.inj (show some (V0.heap.size) = some (V1.heap.size) from e); have := hz1.out; have := hz2.out; omega))).trans hc2
                    refine hK.out _ _ ((hV3.cell (p := ⟨bj, _, none⟩) hbj).trans hcw) (fun hHeld => ?_)
                    clear hK
                    try simp only [Act.put, List.setIfInBounds_toArray, List.set_cons_zero, List.set_cons_succ]
                    refine wpAnyH_ready (rs := [16]) (by kernel_rfl) (by simp) ?_
                    refine AllReadyH.cons rfl (fun K hK => ?_) (AllReadyH.nil)
                    · refine step_app1 rfl _ _ rfl wr.heap.size _ ([] ++ dn) rfl ho3 nd (by simp [← Hnd.out]) _ k rfl hc3 (by omega) hV3.size ?_
                      intro A4 c4 V4 ho4 hg4
                      have hV4 : Below wr.heap.size wr V4 := ho3.grownBelow hg4 hV3 (Nat.le_refl _) hV3.size
                      refine hK.out _ _ ((hV4.cell (p := ⟨bj, _, none⟩) hbj).trans hcw) (fun hHeld => ?_)
                      clear hK
                      try simp only [Act.put, List.setIfInBounds_toArray, List.set_cons_zero, List.set_cons_succ]
                      refine wpAnyH_ready (rs := [18]) (by kernel_rfl) (by simp) ?_
                      refine AllReadyH.cons rfl (fun K hK => ?_) (AllReadyH.nil)
                      · go_simp
                        go_at_call 70
                        refine (hrk.out A4 c4 V4 hV4 ho4).mono ?_
                        rintro e V5 ⟨rfl, hb5⟩
                        have hV5 : Below wr.heap.size wr V5 := hV4.trans (hb5.mono hV4.size)
                        show K _ V5
                        refine hK.out _ _ ((hV5.cell (p := ⟨bj, _, none⟩) hbj).trans hcw) (fun hHeld => ?_)
                        clear hK
                        try simp only [Act.put, List.setIfInBounds_toArray, List.set_cons_zero, List.set_cons_succ]
                        refine wpAnyH_take (i := 19) (v := .int .i64 (wt * ev + lv)) rfl (by kernel_rfl) (by kernel_rfl) (by kernel_rfl) (fun _ _ _ h => h) (Or.inl ⟨by kernel_rfl, fun w hSw => by (try dsimp only at hSw); go_simp⟩) hHeld ?_
                        try simp only [Act.put, List.setIfInBounds_toArray, List.set_cons_zero, List.set_cons_succ]
                        refine wpAnyH_take (i := 20) (v := .int .i64 (wt * ev + lv)) rfl (by kernel_rfl) (by kernel_rfl) (by kernel_rfl) (fun _ _ _ h => h) (Or.inl ⟨by kernel_rfl, fun w hSw => by (try dsimp only at hSw); go_simp⟩) hHeld ?_
                        try simp only [Act.put, List.setIfInBounds_toArray, List.set_cons_zero, List.set_cons_succ]
                        refine wpAnyH_done (by kernel_rfl) ?_ _
                        try simp only [Act.put, List.setIfInBounds_toArray, List.set_cons_zero, List.set_cons_succ]
                        exact ⟨_, _, _, _, _, _, _, _, _, _, _, _, _, _, _, _, _, _, _, _, rfl, hV5⟩
              · go_simp
                obtain ⟨V2, hq2⟩ : ∃ V, V = V1.alloc (.cells #[] 3) := ⟨_, rfl⟩
                have hV2 : Below wr.heap.size wr V2 := by rw [hq2]; exact hV1.alloc hV1.size _
                have hz2 : Hid (V2.heap.size = V1.heap.size + 1) := by show _ = _; rw [hq2]; simp
                have ho2 : Own V2 wr.heap.size (.slice (some ⟨V1.heap.size, 0, none⟩) 0 0) [] := by rw [hq2]; exact Own.lit0 V1 _ hV1.size
                have hc2 : V2.cell? ⟨V0.heap.size, 0, none⟩ = some (.int .i64 k) := by rw [hq2]; exact (World.cell?_of_block (Below.heap_alloc _ _ _ (by show V0.heap.size < _; have := hz1.out; omega))).trans hc1
                try rw [← hq2]
                refine hK.out _ _ ((hV2.cell (p := ⟨bj, _, none⟩) hbj).trans hcw) (fun hHeld => ?_)
                clear hK hq2
                try simp only [Act.put, List.setIfInBounds_toArray, List.set_cons_zero, List.set_cons_succ]
                refine wpAnyH_ready (rs := [7]) (by kernel_rfl) (by simp) ?_
                refine AllReadyH.cons rfl (fun K hK => ?_) (AllReadyH.nil)
                · go_simp
                  go_at_call 72
                  refine (hfd.out _).mono ?_
                  rintro e wX ⟨rfl, hwX⟩
                  show K _ wX
                  rw [← hwX]
                  refine hK.out _ _ ((hV2.cell (p := ⟨bj, _, none⟩) hbj).trans hcw) (fun hHeld => ?_)
                  clear hK hwX
                  try simp only [Act.put, List.setIfInBounds_toArray, List.set_cons_zero, List.set_cons_succ]
                  refine wpAnyH_take (i := 8) (v := .int .i64 (wt * ev)) rfl (by kernel_rfl) (by kernel_rfl) (by kernel_rfl) (fun _ _ _ h => h) (Or.inl ⟨by kernel_rfl, fun w hSw => by (try dsimp only at hSw); go_simp⟩) hHeld ?_
                  try simp only [Act.put, List.setIfInBounds_toArray, List.set_cons_zero, List.set_cons_succ]
                  refine wpAnyH_ready (rs := [13]) (by kernel_rfl) (by simp) ?_
                  refine AllReadyH.cons rfl (fun K hK => ?_) (AllReadyH.nil)
                  · refine step_appK rfl _ _ rfl wr.heap.size _ [] rfl ho2 ad nd cD dn rfl Hnd.out.symm (hdc.out _ hV2) (by simp; rw [← Hnd.out]; omega) hV2.size nd (by simp [← Hnd.out]) ?_
                    intro A3 c3 V3 ho3 hg3
                    have hV3 : Below wr.heap.size wr V3 := ho2.grownBelow hg3 hV2 (Nat.le_refl _) hV2.size
                    have hgz3 : Hid (V2.heap.size ≤ V3.heap.size) := hg3.size
                    have hc3 : V3.cell? ⟨V0.heap.size, 0, none⟩ = some (.int .i64 k) := (World.cell?_of_block (hg3.block V0.heap.size (by have := hz1.out; have := hz2.out; omega) (fun e => by have := Option.some.inj (show some (V0.heap.size) = some (V1.heap.size) from e); have := hz1.out; have := hz2.out; omega))).trans hc2
                    refine hK.out _ _ ((hV3.cell (p := ⟨bj, _, none⟩) hbj).trans hcw) (fun hHeld => ?_)
                    clear hK
                    try simp only [Act.put, List.setIfInBounds_toArray, List.set_cons_zero, List.set_cons_succ]
                    refine wpAnyH_ready (rs := [16]) (by kernel_rfl) (by simp) ?_
                    refine AllReadyH.cons rfl (fun K hK => ?_) (AllReadyH.nil)
                    · refine step_app1 rfl _ _ rfl wr.heap.size _ ([] ++ dn) rfl ho3 nd (by simp [← Hnd.out]) _ k rfl hc3 (by omega) hV3.size ?_
                      intro A4 c4 V4 ho4 hg4
                      have hV4 : Below wr.heap.size wr V4 := ho3.grownBelow hg4 hV3 (Nat.le_refl _) hV3.size
                      refine hK.out _ _ ((hV4.cell (p := ⟨bj, _, none⟩) hbj).trans hcw) (fun hHeld => ?_)
                      clear hK
                      try simp only [Act.put, List.setIfInBounds_toArray, List.set_cons_zero, List.set_cons_succ]
                      refine wpAnyH_ready (rs := [18]) (by kernel_rfl) (by simp) ?_
                      refine AllReadyH.cons rfl (fun K hK => ?_) (AllReadyH.nil)
                      · go_simp
                        go_at_call 70
                        refine (hrk.out A4 c4 V4 hV4 ho4).mono ?_
                        rintro e V5 ⟨rfl, hb5⟩
                        have hV5 : Below wr.heap.size wr V5 := hV4.trans (hb5.mono hV4.size)
                        show K _ V5
                        refine hK.out _ _ ((hV5.cell (p := ⟨bj, _, none⟩) hbj).trans hcw) (fun hHeld => ?_)
                        clear hK
                        try simp only [Act.put, List.setIfInBounds_toArray, List.set_cons_zero, List.set_cons_succ]
                        refine wpAnyH_take (i := 19) (v := .int .i64 (wt * ev + lv)) rfl (by kernel_rfl) (by kernel_rfl) (by kernel_rfl) (fun _ _ _ h => h) (Or.inl ⟨by kernel_rfl, fun w hSw => by (try dsimp only at hSw); go_simp⟩) hHeld ?_
                        try simp only [Act.put, List.setIfInBounds_toArray, List.set_cons_zero, List.set_cons_succ]
                        refine wpAnyH_take (i := 20) (v := .int .i64 (wt * ev + lv)) rfl (by kernel_rfl) (by kernel_rfl) (by kernel_rfl) (fun _ _ _ h => h) (Or.inl ⟨by kernel_rfl, fun w hSw => by (try dsimp only at hSw); go_simp⟩) hHeld ?_
                        try simp only [Act.put, List.setIfInBounds_toArray, List.set_cons_zero, List.set_cons_succ]
                        refine wpAnyH_done (by kernel_rfl) ?_ _
                        try simp only [Act.put, List.setIfInBounds_toArray, List.set_cons_zero, List.set_cons_succ]
                        exact ⟨_, _, _, _, _, _, _, _, _, _, _, _, _, _, _, _, _, _, _, _, rfl, hV5⟩
          · intro e a' w' h
            cases e
            case normal =>
             obtain ⟨t34, t35, t36, t37, t38, t39, t40, t41, t42, t43, t44, t45, t46, t47, t48, t49, t50, t51, t52, t53, rfl, hB9⟩ := h
             replace hbel := hbel.trans (hB9.mono hbel.size)
             by_cases m1 : gk < 0
             · have hgs' : Hid (g (k + 1) = wt * ev + lv) := by show _ = _; rw [hgs.out, minB, if_pos (Or.inl m1)]
               go_wp2_with fail
               go_roundw
               case rel => exact ⟨k + 1, by omega, by go_num, by rw [hgs'.out], hbel⟩
               case measure => simp [intOf]; omega
             · by_cases m2 : wt * ev + lv < gk
               · have hgs' : Hid (g (k + 1) = wt * ev + lv) := by show _ = _; rw [hgs.out, minB, if_pos (Or.inr m2)]
                 go_wp2_with fail
                 go_roundw
                 case rel => exact ⟨k + 1, by omega, by go_num, by rw [hgs'.out], hbel⟩
                 case measure => simp [intOf]; omega
               · have hgs' : Hid (g (k + 1) = gk) := by show _ = _; rw [hgs.out, minB, if_neg (by omega)]
                 go_wp2_with fail
                 go_roundw
                 case rel => exact ⟨k + 1, by omega, by go_num, by rw [hgs'.out], hbel⟩
                 case measure => simp [intOf]; omega
            all_goals exact h.elim
      · obtain rfl : k = n := by omega
        go_wp2_with fail
        go_ret
        exact ⟨rfl, hbel⟩
end Go.Proofs.Ytglncadfmomamaa
