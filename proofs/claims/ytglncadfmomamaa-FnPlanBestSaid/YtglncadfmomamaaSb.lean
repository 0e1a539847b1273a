/- PlanBest of the reference, walked. -/
import Derived.Test.YtglncadfmomamaaLe
import Derived.Test.YtglncadfmomamaaBest2
namespace Go.Proofs.Ytglncadfmomamaa
set_option linter.unusedVariables false
set_option linter.unusedSimpArgs false
open Go.RowKit
theorem wkf_bd {J : List Jb} {x : List Int} (hJ : JobsFit J) (hx : PreOk J.length x) : ∀ k, k ≤ x.length → 0 ≤ workTo J x k ∧ workTo J x k ≤ 9 * k
  | 0, _ => by unfold workTo; omega
  | k + 1, h => by
    obtain ⟨h1, h2⟩ := wkf_bd hJ hx k (by omega)
    have hm : x.getD k 0 ∈ x := by rw [List.getD, List.getElem?_eq_getElem h]; exact List.getElem_mem _
    obtain ⟨p1, p2⟩ := hx.1 _ hm
    obtain ⟨q, hq⟩ := Int.eq_ofNat_of_zero_le p1
    have hj := hJ q (by omega)
    rw [workTo, hq]
    push_cast
    omega
set_option maxRecDepth 100000 in
set_option maxHeartbeats 4000000 in
theorem specBest (s : ByteArray) (AJ : Option Addr) (c : Nat) (J : List Jb) (hs : s.size ≤ maxLen) (hJn : J.length ≤ 1048576) (w : World) (hJ : Jbs w w.heap.size AJ J) :
    Calls Try.prog 32 #[.string s, .slice AJ J.length c] w (SlPost (bestR s.data.toList J) w) := by
  obtain ⟨n, hn⟩ : ∃ n, n = J.length := ⟨_, rfl⟩
  have hb1 : Below w.heap.size w (w.alloc (Obj.cells #[] 3)) := (Below.refl _ w).alloc (Nat.le_refl _) _
  have H1 := Lib.hid (specOk s AJ c J hs hJn _ ((hJ.below hb1).more hb1.size))
  obtain ⟨pv, hpv⟩ : ∃ b, b = planV s.data.toList J := ⟨_, rfl⟩
  have Hpv := Lib.hid hpv
  have HJ := Lib.hid hJ
  have Hn := Lib.hid hn
  rw [← hn, ← hpv] at H1
  rw [← hn]
  have ho0 : Own (w.alloc (Obj.cells #[] 3)) w.heap.size (.slice (some ⟨w.heap.size, 0, none⟩) 0 0) [] := Own.lit0 w _ (Nat.le_refl _)
  cases pv with
  | false =>
    clear hpv hJ hn
    go_enter Try.func32, Try.ntmps32
    go_wp2_with fail
    refine H1.out.mono ?_
    rintro e w1 ⟨rfl, hb2⟩
    go_wp2_with fail
    go_ret2
    exact SlPost.mk (xs := []) ⟨Hpv.out, by rw [← Hpv.out]; rfl⟩ (ho0.below (hb2.mono (Nat.le_refl _))) (hb1.trans (hb2.mono hb1.size))
  | true =>
    obtain ⟨hfv, hl30, hjf, hpf, hlen, -⟩ := planIn_fit (planIn_first hpv.symm)
    have hn6 : n ≤ 6 := by rw [hn, ← hlen]; exact hpf.1
    have hE : ∀ x, -1 ≤ fcDay s.data.toList x ∧ fcDay s.data.toList x ≤ 30 := fcDay_bd hfv hl30
    obtain ⟨E, hEE⟩ : ∃ E, E = fcDay s.data.toList := ⟨_, rfl⟩
    obtain ⟨bf1, bf2⟩ := best_fit hpv.symm
    have HF : Hid (∀ r dn, dn.length + (r + 1) = n → PreOk n dn → firstI E J n r dn (wkf J dn) < n ∧ (firstI E J n r dn (wkf J dn) : Int) ∉ dn ∧ vAt E J n r dn (wkf J dn) (firstI E J n r dn (wkf J dn)) = leastG E J n (r + 1) dn (wkf J dn) ∧ ∀ j, j < firstI E J n r dn (wkf J dn) → (j : Int) ∉ dn → vAt E J n r dn (wkf J dn) j ≠ leastG E J n (r + 1) dn (wkf J dn)) := fun r dn h1 h2 => by
      rw [hEE, hn]
      exact (best_perms (E := fcDay s.data.toList) (wkf := wkf J) bf1 bf2 (r + 1) dn (by omega) (by rw [← hn]; exact h2)).2.2.2 r rfl
    have HL : Hid (∀ (r : Nat) (dn : List Int) (wk : Int) (ad : Addr) (cD lo ln : Nat) (w' : World), dn.length = ln → ln + r = n → 0 ≤ wk → wk ≤ 9 * ln → Below w.heap.size w w' → Iv w' lo w'.heap.size (some ad) dn → ln ≤ cD →
      Calls Try.prog 70 #[.string s, .slice AJ n c, .slice (some ad) ln cD, .int .i64 wk] w' fun e w'' => e = .returned (.int .i64 (leastG E J n r dn wk)) ∧ Below w'.heap.size w' w'') := fun r dn wk ad cD lo ln w' h1 h2 h3 h4 h5 h6 h7 => by
      subst h1
      have := specLeast s AJ c J hs hE hjf (by omega) r dn wk ad cD lo w' (by omega) h3 h4 ((HJ.out.below h5).more h5.size) h6 h7
      rw [← hEE, ← hn] at this
      exact this
    have HW : Hid (∀ dn, PreOk n dn → 0 ≤ wkf J dn ∧ wkf J dn ≤ 9 * dn.length) := fun dn h => wkf_bd hjf (by rw [← hn]; exact h) _ (Nat.le_refl _)
    have HLb : Hid (∀ (r : Nat) dn wk, -9 * (r : Int) - 1 ≤ leastG E J n r dn wk ∧ leastG E J n r dn wk ≤ 270 * r) := fun r dn wk => by
      rw [hn]; exact leastG_bd (by rw [hEE]; exact hE) hjf r dn wk
    have Hfd := Lib.hid (fun x w => specDay s hs x w)
    rw [← hEE] at Hfd
    have HE : Hid (∀ x, -1 ≤ E x ∧ E x ≤ 30) := fun x => by rw [hEE]; exact hE x
    have HJf := Lib.hid hjf
    have HR : Hid (∀ xs, xs = gBest E J n n [] 0 → bestR s.data.toList J xs true) := fun xs h => ⟨Hpv.out, by rw [← hpv, if_pos rfl, best_greedy hpv.symm, h, hEE, hn]⟩
    clear hpv hJ hn hfv hl30 hjf hpf hlen hE bf1 bf2 hEE
    go_enter Try.func32, Try.ntmps32
    go_wp2_with fail
    refine H1.out.mono ?_
    rintro e w1 ⟨rfl, hb2⟩
    have ho1 := ho0.below hb2
    replace hb2 := hb1.trans (hb2.mono hb1.size)
    clear H1 ho0 hb1
    go_wp2_with fail
    go_loopg [6, 7] n (fun r o wv wr => ∃ (dn : List Int) (g c' ln : Nat) (wk : Int), ln + r = n ∧ o = .slice (some ⟨g, 0, none⟩) ln c' ∧ wv = .int .i64 wk ∧ Hid (dn.length = ln ∧ wk = wkf J dn ∧ PreOk n dn ∧ gBest E J n r dn wk = gBest E J n n [] 0) ∧ Own wr w.heap.size (.slice (some ⟨g, 0, none⟩) ln c') dn ∧ Below w.heap.size w wr)
    case atStart => exact ⟨[], w.heap.size, 0, 0, 0, by omega, rfl, rfl, ⟨rfl, rfl, ⟨by simp, by simp⟩, rfl⟩, ho1, hb2⟩
    case round =>
      clear ho1 hb2
      obtain ⟨dn, g, c', ln, wk, hlr, rfl, rfl, hst, hown, hbel⟩ := hrel
      have hform : ln ≤ c' := by obtain ⟨_, _, e, h1, _⟩ := hown.form; simp only [Value.slice.injEq] at e; obtain ⟨-, e2, e3⟩ := e; omega
      cases hgk : gk with
      | zero =>
        subst hgk
        obtain rfl : ln = n := by omega
        go_wp2_with fail
        go_ret2
        exact SlPost.mk (xs := dn) (HR.out _ hst.out.2.2.2) hown hbel
      | succ r =>
        subst hgk
        have hln : ln < n := by omega
        have hwk := HW.out dn hst.out.2.2.1
        rw [← hst.out.2.1, hst.out.1] at hwk
        have hff := HF.out r dn (by rw [hst.out.1]; omega) hst.out.2.2.1
        rw [← hst.out.2.1] at hff
        obtain ⟨fi, hfi⟩ : ∃ k, k = firstI E J n r dn wk := ⟨_, rfl⟩
        obtain ⟨least, hle⟩ : ∃ x, x = leastG E J n (r + 1) dn wk := ⟨_, rfl⟩
        rw [← hfi, ← hle] at hff
        have hcall := Lib.hid (HL.out (r + 1) dn wk ⟨g, 0, none⟩ c' w.heap.size ln wr hst.out.1 (by omega) hwk.1 hwk.2 hbel hown.iv hform)
        rw [← hle] at hcall
        have Hfi : Hid (gBest E J n (r + 1) dn wk = gBest E J n r (dn ++ [(fi : Int)]) (wk + (jAt J (fi : Nat)).d)) := by show _ = _; rw [hfi]; rfl
        replace hff := Lib.hid hff
        have hfin := hff.out.1
        clear hfi hle
        go_wp2_with fail
        refine hcall.out.mono ?_
        rintro e w2 ⟨rfl, hb2⟩
        replace hown := hown.below hb2
        replace hbel := hbel.trans (hb2.mono hbel.size)
        clear hcall hb2
        go_wp2_with fail
        go_loopw [6, 7, 9] (fun o wv i wi => ∃ (j : Nat), j ≤ fi ∧ i = .int .i64 j ∧ o = .slice (some ⟨g, 0, none⟩) ln c' ∧ wv = .int .i64 wk ∧ Own wi w.heap.size (.slice (some ⟨g, 0, none⟩) ln c') dn ∧ Below w.heap.size w wi) (fun _ _ i _ => n - (intOf i).toNat)
        case atStart => exact ⟨0, by omega, rfl, rfl, rfl, hown, hbel⟩
        case round =>
          clear hown hbel
          -- ROUND
          obtain ⟨j, hjf, rfl, rfl, rfl, hown, hbel⟩ := hrel
          have hjn : j < n := by omega
          obtain ⟨-, hf2, hf3, hf4⟩ := hff.out
          have hhas := Lib.hid (has_any (some ⟨g, 0, none⟩) c' w.heap.size wr.heap.size dn (by rw [hst.out.1]; omega) (j : Int) wr hown.iv)
          rw [hst.out.1] at hhas
          by_cases hmem : (j : Int) ∈ dn
          · rw [show dn.contains (j : Int) = true by simpa using hmem] at hhas
            have hne : j ≠ fi := fun e => hf2 (e ▸ hmem)
            have hj1 : j + 1 ≤ fi := by omega
            clear hmem hf2 hf3 hf4 hne
            go_wp2_with fail
            refine hhas.out.mono ?_
            rintro e w3 ⟨rfl, rfl⟩
            go_wp2_with fail
            go_roundw
            case rel => exact ⟨j + 1, hj1, by go_num, rfl, rfl, hown, hbel⟩
            case measure => simp [intOf]; omega
          · rw [show dn.contains (j : Int) = false by simpa using hmem] at hhas
            obtain ⟨bj, oj, rfl, hbj, hcj⟩ := (HJ.out.below hbel) (by rw [← Hn.out]; omega)
            obtain ⟨y, hy⟩ : ∃ y, J[j]? = some y := ⟨J[j]'(by rw [← Hn.out]; exact hjn), List.getElem?_eq_getElem _⟩
            have hjat : jAt J (j : Int) = y := by unfold jAt; rw [Int.toNat_natCast, List.getD, hy]; rfl
            have hjfit := HJf.out j (by rw [← Hn.out]; exact hjn)
            rw [hjat] at hjfit
            obtain ⟨hcd, hcw⟩ := hcj j y hy
            obtain ⟨d, hd⟩ : ∃ d, d = y.d := ⟨_, rfl⟩
            obtain ⟨wt, hwt⟩ : ∃ d, d = y.w := ⟨_, rfl⟩
            rw [← hd, ← hwt] at hjfit
            rw [← hd] at hcd
            rw [← hwt] at hcw
            obtain ⟨hd1, hd9, hw1', hw9⟩ := hjfit
            have hEb := HE.out (wk + d)
            obtain ⟨ev, hev⟩ : ∃ e, e = E (wk + d) := ⟨_, rfl⟩
            have hfd := Lib.hid (fun w => Hfd.out (wk + d) w)
            rw [← hev] at hEb hfd
            obtain ⟨hm1, hm2⟩ := wE_bd hw1' hw9 hEb.1 hEb.2
            obtain ⟨lv, hlv⟩ : ∃ x, x = leastG E J n r (dn ++ [(j : Int)]) (wk + d) := ⟨_, rfl⟩
            have hlb := HLb.out r (dn ++ [(j : Int)]) (wk + d)
            have hvat : vAt E J n r dn wk j = wt * ev + lv := by unfold vAt; rw [hjat, ← hd, ← hwt, ← hev, ← hlv]
            rw [← hlv] at hlb
            have hr6 : r ≤ 6 := by omega
            have hwm : IntKind.i64.wrap (wt * ev) = wt * ev := IntWalk.i64_in _ (by omega)
            have hws : IntKind.i64.wrap (wt * ev + lv) = wt * ev + lv := IntWalk.i64_in _ (by omega)
            have hwkd : IntKind.i64.wrap (wk + d) = wk + d := IntWalk.i64_in _ (by omega)
            have hcmp : Hid ((j = fi ∧ wt * ev + lv = least) ∨ (j < fi ∧ wt * ev + lv ≠ least)) := by
              rcases (by omega : j = fi ∨ j < fi) with h | h
              · left
                refine ⟨h, ?_⟩
                rw [← hvat, h]; exact hf3
              · right
                refine ⟨h, ?_⟩
                rw [← hvat]; exact hf4 j h hmem
            have hsn : Hid (PreOk n (dn ++ [(j : Int)]) ∧ wk + d = wkf J (dn ++ [(j : Int)]) ∧ (dn ++ [(j : Int)]).length = ln + 1 ∧ (jAt J (j : Nat)).d = d) := by
              refine ⟨hst.out.2.2.1.snoc hjn hmem, ?_, by rw [List.length_append, hst.out.1]; rfl, by rw [hd, ← hjat]⟩
              rw [wkf_snoc, ← hst.out.2.1, hd, ← hjat]
            have ho1 : Own (wr.alloc (.cells #[] 3)) wr.heap.size (.slice (some ⟨wr.heap.size, 0, none⟩) 0 0) [] := Own.lit0 wr _ (Nat.le_refl _)
            have hdc : ∀ i x, dn[i]? = some x → (wr.alloc (.cells #[] 3)).cell? ((⟨g, 0, none⟩ : Addr).add i) = some (.int .i64 x) := fun i x hx => by
              obtain ⟨b, off, e, h1, h2, h3⟩ := hown.iv (by have := (List.getElem?_eq_some_iff.1 hx).1; omega)
              cases e
              rw [Addr.add_lit]
              exact (World.cell?_of_block (Below.heap_alloc _ _ _ h2)).trans (h3 i x hx)
            have hst1 := hst.out.1
            replace hlv := Lib.hid hlv
            have Hdc := Lib.hid hdc
            have Ho1 := Lib.hid ho1
            have Hown := Lib.hid hown
            clear hmem hf2 hf3 hf4 hcj hy hjat hd hwt hev hvat hdc ho1 hown
            go_wp2_with (first
              | (refine appK _ rfl _ _ rfl wr.heap.size _ [] rfl Ho1.out ⟨g, 0, none⟩ ln c' dn rfl hst1 Hdc.out (by simp; omega) (by simp) ln (by simpa using hst1) ?_; intro A1 c1 W1 ho2 hg2; have hz1 : Hid (wr.heap.size < W1.heap.size) := (by have := hg2.size; simp at this; exact this))
              | (refine app1 _ rfl _ _ rfl wr.heap.size _ ([] ++ dn) rfl (Own.alloc ho2 _) ln (by simpa using hst1) _ j rfl (alloc1_cell rfl) (by omega) (by have := hz1.out; simp; omega) ?_; intro A2 c2 W2 ho3 hg3)
              | (refine hhas.out.mono ?_; rintro e w3 ⟨rfl, rfl⟩))
            have hB1 : Below wr.heap.size wr W1 := Ho1.out.grownBelow hg2 ((Below.refl _ wr).alloc (Nat.le_refl _) _) (Nat.le_refl _) (by simp)
            have hB2 : Below wr.heap.size wr W2 := (Own.alloc ho2 _).grownBelow hg3 (hB1.alloc hB1.size _) (Nat.le_refl _) (by have := hz1.out; simp; omega)
            rw [List.nil_append] at ho3
            obtain ⟨g5, rfl, hg5, -⟩ := ho3.some (by simp)
            have hform2 : ln + 1 ≤ c2 := by obtain ⟨_, _, e, h1, _⟩ := ho3.form; simp only [Value.slice.injEq] at e; obtain ⟨-, e2, e3⟩ := e; omega
            have hcall := Lib.hid (HL.out r (dn ++ [(j : Int)]) (wk + d) ⟨g5, 0, none⟩ c2 wr.heap.size (ln + 1) W2.drew hsn.out.2.2.1 (by omega) (by omega) (by push_cast; omega) (below_drewN (hbel.trans (hB2.mono hbel.size)) 1) (ho3.iv) hform2)
            rw [← hlv.out] at hcall
            have ho3' := Lib.hid (ho3.more (show w.heap.size ≤ wr.heap.size from hbel.size))
            have hown2 := Lib.hid (Hown.out.below hB2)
            have hbj2 : bj < wr.heap.size := Nat.lt_of_lt_of_le hbj hbel.size
            have hcw2 : W2.cell? ⟨bj, oj + j * 2 + 1, none⟩ = some (.int .i64 wt) := (hB2.cell (p := ⟨bj, _, none⟩) hbj2).trans hcw
            have hkeep : Hid (∀ w9, Below W2.drew.heap.size W2.drew w9 → Below wr.heap.size wr w9) := fun w9 h => (below_drewN hB2 1).trans (h.mono hB2.size)
            clear hB1 ho2 ho3 hg2 hg3 Hdc Ho1 hcd hcw
            refine wp_region_held_drew (S := fun w' => w'.cell? ⟨bj, oj + j * 2 + 1, none⟩ = some (.int .i64 wt)) (by kernel_rfl) hcw2 (fun hHeld => ?_)
            refine wpAnyH_take (i := 0) (v := .slice (some ⟨bj, oj, none⟩) n c) rfl (by kernel_rfl) (by kernel_rfl) (by kernel_rfl) (fun _ _ _ h => h) (Or.inl ⟨by kernel_rfl, fun w hSw => by (try dsimp only at hSw); go_simp⟩) hHeld ?_
            try simp only [Act.put, List.setIfInBounds_toArray, List.set_cons_zero, List.set_cons_succ]
            refine wpAnyH_take (i := 1) (v := .int .i64 j) rfl (by kernel_rfl) (by kernel_rfl) (by kernel_rfl) (fun _ _ _ h => h) (Or.inl ⟨by kernel_rfl, fun w hSw => by (try dsimp only at hSw); go_simp⟩) hHeld ?_
            try simp only [Act.put, List.setIfInBounds_toArray, List.set_cons_zero, List.set_cons_succ]
            refine wpAnyH_take (i := 2) (v := .pointer (some ⟨bj, oj + j * 2, none⟩)) rfl (by kernel_rfl) (by kernel_rfl) (by kernel_rfl) (fun _ _ _ h => h) (Or.inl ⟨by kernel_rfl, fun w hSw => by (try dsimp only at hSw); go_simp⟩) hHeld ?_
            try simp only [Act.put, List.setIfInBounds_toArray, List.set_cons_zero, List.set_cons_succ]
            refine wpAnyH_take (i := 3) (v := .pointer (some ⟨bj, oj + j * 2 + 1, none⟩)) rfl (by kernel_rfl) (by kernel_rfl) (by kernel_rfl) (fun _ _ _ h => h) (Or.inl ⟨by kernel_rfl, fun w hSw => by (try dsimp only at hSw); go_simp⟩) hHeld ?_
            try simp only [Act.put, List.setIfInBounds_toArray, List.set_cons_zero, List.set_cons_succ]
            refine wpAnyH_take (i := 4) (v := .int .i64 wt) rfl (by kernel_rfl) (by kernel_rfl) (by kernel_rfl) (fun _ _ _ h => h) (Or.inl ⟨by kernel_rfl, fun w hSw => by (try dsimp only at hSw); go_simp⟩) hHeld ?_
            try simp only [Act.put, List.setIfInBounds_toArray, List.set_cons_zero, List.set_cons_succ]
            refine wpAnyH_take (i := 5) (v := .string s) rfl (by kernel_rfl) (by kernel_rfl) (by kernel_rfl) (fun _ _ _ h => h) (Or.inl ⟨by kernel_rfl, fun w hSw => by (try dsimp only at hSw); go_simp⟩) hHeld ?_
            try simp only [Act.put, List.setIfInBounds_toArray, List.set_cons_zero, List.set_cons_succ]
            refine wpAnyH_take (i := 6) (v := .int .i64 (wk + d)) rfl (by kernel_rfl) (by kernel_rfl) (by kernel_rfl) (fun _ _ _ h => h) (Or.inl ⟨by kernel_rfl, fun w hSw => by (try dsimp only at hSw); go_simp⟩) hHeld ?_
            try simp only [Act.put, List.setIfInBounds_toArray, List.set_cons_zero, List.set_cons_succ]
            refine wpAnyH_take (i := 9) (v := .string s) rfl (by kernel_rfl) (by kernel_rfl) (by kernel_rfl) (fun _ _ _ h => h) (Or.inl ⟨by kernel_rfl, fun w hSw => by (try dsimp only at hSw); go_simp⟩) hHeld ?_
            try simp only [Act.put, List.setIfInBounds_toArray, List.set_cons_zero, List.set_cons_succ]
            refine wpAnyH_take (i := 10) (v := .slice (some ⟨bj, oj, none⟩) n c) rfl (by kernel_rfl) (by kernel_rfl) (by kernel_rfl) (fun _ _ _ h => h) (Or.inl ⟨by kernel_rfl, fun w hSw => by (try dsimp only at hSw); go_simp⟩) hHeld ?_
            try simp only [Act.put, List.setIfInBounds_toArray, List.set_cons_zero, List.set_cons_succ]
            refine wpAnyH_take (i := 11) (v := .slice (some ⟨g5, 0, none⟩) (ln + 1) c2) rfl (by kernel_rfl) (by kernel_rfl) (by kernel_rfl) (fun _ _ _ h => h) (Or.inl ⟨by kernel_rfl, fun w hSw => by (try dsimp only at hSw); go_simp⟩) hHeld ?_
            try simp only [Act.put, List.setIfInBounds_toArray, List.set_cons_zero, List.set_cons_succ]
            refine wpAnyH_take (i := 12) (v := .int .i64 (wk + d)) rfl (by kernel_rfl) (by kernel_rfl) (by kernel_rfl) (fun _ _ _ h => h) (Or.inl ⟨by kernel_rfl, fun w hSw => by (try dsimp only at hSw); go_simp⟩) hHeld ?_
            try simp only [Act.put, List.setIfInBounds_toArray, List.set_cons_zero, List.set_cons_succ]
            refine wpAnyH_take (i := 15) (v := .int .i64 least) rfl (by kernel_rfl) (by kernel_rfl) (by kernel_rfl) (fun _ _ _ h => h) (Or.inl ⟨by kernel_rfl, fun w hSw => by (try dsimp only at hSw); go_simp⟩) hHeld ?_
            try simp only [Act.put, List.setIfInBounds_toArray, List.set_cons_zero, List.set_cons_succ]
            refine wpAnyH_ready (rs := [7]) (by kernel_rfl) (by simp) ?_
            refine AllReadyH.cons rfl (fun K hK => ?_) AllReadyH.nil
            go_simp
            go_at_call 72
            refine (hfd.out _).mono ?_
            rintro e wX ⟨rfl, hwX⟩
            show K _ wX
            rw [← hwX]
            refine hK.out _ _ hcw2 (fun hHeld => ?_)
            clear hK hwX
            try simp only [Act.put, List.setIfInBounds_toArray, List.set_cons_zero, List.set_cons_succ]
            refine wpAnyH_take (i := 8) (v := .int .i64 (wt * ev)) rfl (by kernel_rfl) (by kernel_rfl) (by kernel_rfl) (fun _ _ _ h => h) (Or.inl ⟨by kernel_rfl, fun w hSw => by (try dsimp only at hSw); go_simp⟩) hHeld ?_
            try simp only [Act.put, List.setIfInBounds_toArray, List.set_cons_zero, List.set_cons_succ]
            refine wpAnyH_ready (rs := [13]) (by kernel_rfl) (by simp) ?_
            refine AllReadyH.cons rfl (fun K hK => ?_) AllReadyH.nil
            go_simp
            go_at_call 70
            refine hcall.out.mono ?_
            rintro e w9 ⟨rfl, hb9⟩
            have hk9 := hkeep.out w9 hb9
            show K _ w9
            refine hK.out _ _ ((hb9.cell (p := ⟨bj, _, none⟩) (by show bj < W2.heap.size; have := hB2.size; omega)).trans hcw2) (fun hHeld => ?_)
            clear hK
            try simp only [Act.put, List.setIfInBounds_toArray, List.set_cons_zero, List.set_cons_succ]
            refine wpAnyH_take (i := 14) (v := .int .i64 (wt * ev + lv)) rfl (by kernel_rfl) (by kernel_rfl) (by kernel_rfl) (fun _ _ _ h => h) (Or.inl ⟨by kernel_rfl, fun w hSw => by (try dsimp only at hSw); go_simp⟩) hHeld ?_
            try simp only [Act.put, List.setIfInBounds_toArray, List.set_cons_zero, List.set_cons_succ]
            rcases hcmp.out with ⟨hji, hc⟩ | ⟨hji, hc⟩
            · have hcb := bT hc
              refine wpAnyH_take (i := 16) (v := .bool true) rfl (by kernel_rfl) (by kernel_rfl) (by kernel_rfl) (fun _ _ _ h => h) (Or.inl ⟨by kernel_rfl, fun w hSw => by (try dsimp only at hSw); go_simp⟩) hHeld ?_
              try simp only [Act.put, List.setIfInBounds_toArray, List.set_cons_zero, List.set_cons_succ]
              refine wpAnyH_done (by kernel_rfl) ?_ _
              try simp only [Act.put, List.setIfInBounds_toArray, List.set_cons_zero, List.set_cons_succ]
              replace hc := Lib.hid hc
              replace hji := Lib.hid hji
              clear hcb
              go_wp2_with fail
              go_roundg r
              case measure => omega
              case rel =>
                refine ⟨dn ++ [(j : Int)], g5, c2, ln + 1, wk + d, by omega, rfl, rfl, ⟨hsn.out.2.2.1, hsn.out.2.1, hsn.out.1, ?_⟩, (ho3'.out.drew).below hb9, hbel.trans (hk9.mono hbel.size)⟩
                have h1 := hst.out.2.2.2
                rw [Hfi.out, ← hji.out, hsn.out.2.2.2] at h1
                exact h1
            · have hcb := bF hc
              refine wpAnyH_take (i := 16) (v := .bool false) rfl (by kernel_rfl) (by kernel_rfl) (by kernel_rfl) (fun _ _ _ h => h) (Or.inl ⟨by kernel_rfl, fun w hSw => by (try dsimp only at hSw); go_simp⟩) hHeld ?_
              try simp only [Act.put, List.setIfInBounds_toArray, List.set_cons_zero, List.set_cons_succ]
              refine wpAnyH_done (by kernel_rfl) ?_ _
              try simp only [Act.put, List.setIfInBounds_toArray, List.set_cons_zero, List.set_cons_succ]
              replace hc := Lib.hid hc
              clear hcb
              have hj1 : j + 1 ≤ fi := by omega
              go_wp2_with fail
              go_roundw
              case rel => exact ⟨j + 1, hj1, by go_num, rfl, rfl, hown2.out.drew.below hb9, hbel.trans (hk9.mono hbel.size)⟩
              case measure => simp [intOf]; omega
end Go.Proofs.Ytglncadfmomamaa
