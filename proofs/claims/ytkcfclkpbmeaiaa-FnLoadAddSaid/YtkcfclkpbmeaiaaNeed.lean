/- NetNeeded: reference and program walked. -/
import Derived.Test.YtkcfclkpbmeaiaaLess
import Derived.ArgAppend
namespace Go.Proofs.Ytkcfclkpbmeaiaa
set_option linter.unusedVariables false
set_option linter.unusedSimpArgs false
open Go.RowKit
def needTo (n : Int) (L : List Ln) (p q : Int) (k : Nat) : List Int := ((List.range k).filter fun i => decide (mostV n (L.eraseIdx i) p q < mostV n L p q)).map fun i : Nat => (i : Int)
theorem need_yes {n : Int} {L : List Ln} {p q : Int} {k : Nat} (h : mostV n (L.eraseIdx k) p q < mostV n L p q) : needTo n L p q k ++ [(k : Int)] = needTo n L p q (k + 1) := by
  simp [needTo, List.range_succ, List.filter_append, h]
theorem need_no {n : Int} {L : List Ln} {p q : Int} {k : Nat} (h : ¬ mostV n (L.eraseIdx k) p q < mostV n L p q) : needTo n L p q k = needTo n L p q (k + 1) := by
  simp [needTo, List.range_succ, List.filter_append, h]
theorem need_len (n : Int) (L : List Ln) (p q : Int) (k : Nat) : (needTo n L p q k).length ≤ k := by
  have := List.length_filter_le (fun i => decide (mostV n (L.eraseIdx i) p q < mostV n L p q)) (List.range k)
  simpa [needTo] using this
theorem app0 (w : World) {ops : Array Oper} {rest : List Oper} {o : Oper} {a : Act} {Q : Exit → Act → World → Prop} (hgd : o.guard = none) (s y : Operand)
    (ho : o.op = .call { callee := .builtin .append, args := #[s, y], argTypes := #[24, 24] })
    (g : Nat) (hs : a.eval s = .slice (some ⟨g, 0, none⟩) 0 0) (ad : Addr) (x : Int) (hx : a.eval y = .slice (some ad) 1 1) (hc : w.cell? ad = some (.int .i64 x))
    (h : ∀ A' c' w', Own w' w.heap.size (.slice A' 1 c') [x] → w.grownBy w' none → wpList Try.prog ops Q rest (a.put o.dst (.slice A' 1 c')) w') : wpList Try.prog ops Q (o :: rest) a w := by
  obtain ⟨i0, hi, hz0, hz1, hz2⟩ := info_parts intInfo
  refine wpList_append_grows w hgd s y 24 ho 3 i0 (.int .i64 0) 1 8 Try.underlying24 hi hz0 hz1 hz2 rfl (by decide) (some ⟨g, 0, none⟩) 0 0 [] hs (fun h => by cases h) rfl (fun b hb j u hj => by simp at hj) ad 1 1 [.int .i64 x] hx rfl ?_ ?_ (by omega) (by unfold maxLen; omega) (by omega) ?_
  · intro j u hj
    cases j with
    | zero =>
      simp at hj
      subst hj
      have e : ad.add 0 = ad := by unfold Addr.add; simp
      rw [e]; exact hc
    | succ j => simp at hj
  · intro u hu; simp at hu; subst hu; rfl
  · intro v' w' h1 h2
    have h1' : Own w' w.heap.size v' [x] := h1
    obtain ⟨A', c', e, _⟩ := h1'.form
    subst e
    exact h A' c' w' h1' h2
def needV (n : Int) (L : List Ln) (p q : Int) : List Int := if twoOk n L p q = true then needTo n L p q L.length else []
set_option maxRecDepth 100000 in
theorem sNeeded (n : Int) (A : Option Addr) (c : Nat) (L : List Ln) (p q : Int) (hL1 : L.length ≤ 1048576) (hcap : L.length ≤ c) (w : World) (hL : Lns w w.heap.size A L) :
    Calls Try.prog 49 #[.int .i64 n, .slice A L.length c, .int .i64 p, .int .i64 q] w (Sl1Post (fun xs => xs = needV n L p q) w) := by
  have HT := Lib.hid (fun w hL => sTwo n A c L p q hL1 w hL)
  cases h1 : twoOk n L p q with
  | false =>
    rw [h1] at HT
    have HV : Hid (needV n L p q = []) := by show _ = _; rw [needV, h1]; rfl
    clear h1
    obtain ⟨m, hm⟩ : ∃ m, m = L.length := ⟨_, rfl⟩
    rw [← hm] at hL1 hcap HT ⊢
    clear hm
    go_enter Try.func49, Try.ntmps49
    go_wp2_with fail
    go_loopw [9, 10] (fun v a wr => a = .int .i64 0 ∧ v = .slice (some ⟨w.heap.size, 0, none⟩) 0 0 ∧ wr = w.alloc (.cells #[] 3)) (fun _ _ _ => 0)
    case atStart => exact ⟨rfl, rfl, rfl⟩
    case round =>
      obtain ⟨rfl, rfl, rfl⟩ := hrel
      have hown := Own.lit0 w w.heap.size (Nat.le_refl _)
      have hb0 : Below w.heap.size w (w.alloc (.cells #[] 3)) := (Below.refl _ _).alloc (Nat.le_refl _) _
      by_cases hm0 : 0 < m
      · go_wp2_with fail
        refine (HT.out _ ((hL.below hb0).more hb0.size)).mono ?_
        rintro e w1 ⟨rfl, hb1⟩
        replace hown := hown.below hb1
        replace hb1 := hb0.trans (hb1.mono hb0.size)
        go_wp2_with fail
        go_ret
        exact Sl1Post.mk HV.out.symm hown hb1
      · obtain rfl : m = 0 := by omega
        go_wp2_with fail
        go_ret
        exact Sl1Post.mk HV.out.symm hown hb0
  | true =>
    obtain ⟨hn, _⟩ := twoOk_n h1
    obtain ⟨_, _, hL10, _⟩ := netOk_n hn
    have HV : Hid (needV n L p q = needTo n L p q L.length) := by show _ = _; rw [needV, h1]; rfl
    have HLs := Lib.hid (fun kk (hk : kk < L.length) w hL => sLess n A c L p q kk h1 hk hcap w hL)
    have HB := Lib.hid (fun kk => mostV_bound (two_erase h1 kk))
    have HB0 := mostV_bound h1
    have HY := Lib.hid (fun k h => need_yes (n := n) (L := L) (p := p) (q := q) (k := k) h)
    have HNo := Lib.hid (fun k h => need_no (n := n) (L := L) (p := p) (q := q) (k := k) h)
    have HLn := Lib.hid (need_len n L p q)
    rw [h1] at HT
    obtain ⟨t, ht⟩ : ∃ t, t = mostV n L p q := ⟨_, rfl⟩
    rw [← ht] at HLs HY HNo HB0
    obtain ⟨m, hm⟩ : ∃ m, m = L.length := ⟨_, rfl⟩
    rw [← hm] at hL1 hL10 hcap HT HV HLs ⊢
    clear hm h1 hn ht
    obtain ⟨hb01, hb02⟩ := HB0
    go_enter Try.func49, Try.ntmps49
    go_wp2_with fail
    go_loopw [9, 10] (fun v i wr => ∃ (k ll : Nat) (A' : Option Addr) (c' : Nat), k ≤ m ∧ i = .int .i64 k ∧ v = .slice A' ll c' ∧ ll ≤ k ∧ Own wr w.heap.size (.slice A' ll c') (needTo n L p q k) ∧ Below w.heap.size w wr) (fun _ i _ => m - (intOf i).toNat)
    case atStart => exact ⟨0, 0, _, _, by omega, rfl, rfl, by omega, Own.lit0 _ _ (Nat.le_refl _), (Below.refl _ _).alloc (Nat.le_refl _) _⟩
    case round =>
      obtain ⟨k, ll, A', c', hk, rfl, rfl, hll, hown, hbel⟩ := hrel
      have hlen : Hid ((needTo n L p q k).length = ll) := hown.len.symm
      by_cases hkm : k < m
      · have hls := fun w hL => HLs.out k hkm w hL
        have hy := HY.out k
        have hno := HNo.out k
        obtain ⟨b3, b4⟩ := HB.out k
        obtain ⟨u, hu⟩ : ∃ u, u = mostV n (L.eraseIdx k) p q := ⟨_, rfl⟩
        rw [← hu] at hls hy hno b3 b4
        replace hls := Lib.hid hls
        replace hy := Lib.hid hy
        replace hno := Lib.hid hno
        clear hu
        go_wp2_with fail
        refine (HT.out _ ((hL.below hbel).more hbel.size)).mono ?_
        rintro e w1 ⟨rfl, hb1⟩
        replace hown := hown.below hb1
        replace hb1 := hbel.trans (hb1.mono hbel.size)
        clear hbel
        go_wp2_with fail
        refine (hls.out _ ((hL.below hb1).more hb1.size)).mono ?_
        rintro e w2 ⟨rfl, hb2⟩
        replace hown := hown.below hb2
        replace hb2 := hb1.trans (hb2.mono hb1.size)
        clear hb1
        have hsz := hb2.size
        by_cases htu : u < t
        · have hpos : 0 < t - u := by omega
          have hstep := Lib.hid (hy.out htu)
          clear htu
          go_wp2_with (at_builtin; refine app1 _ rfl _ _ rfl w.heap.size _ _ rfl (Own.alloc hown (Obj.cells #[.int .i64 (k : Int)] 3)) ll hlen.out ⟨w2.heap.size, 0, none⟩ (k : Int) rfl (alloc1_cell rfl) (by omega) (by simp; omega) ?_; intro A3 c3 w4 hown4 hgr4)
          rw [hstep.out] at hown4
          have hb4 : Below w.heap.size w w4 := Own.grownBelow (hown.alloc _) hgr4 (hb2.alloc hsz _) (Nat.le_refl _) (by simp; omega)
          clear hgr4 hown hb2
          go_wp2_with fail
          go_roundw
          case rel => exact ⟨k + 1, ll + 1, A3, c3, by omega, by go_num, rfl, by omega, hown4, hb4⟩
          case measure => simp [intOf]; omega
        · have hpos : ¬ 0 < t - u := by omega
          have hstep := Lib.hid (hno.out (by omega))
          rw [hstep.out] at hown
          clear htu
          go_wp2_with fail
          go_roundw
          case rel => exact ⟨k + 1, ll, A', c', by omega, by go_num, rfl, by omega, hown, hb2⟩
          case measure => simp [intOf]; omega
      · obtain rfl : k = m := by omega
        go_wp2_with fail
        go_ret
        exact Sl1Post.mk HV.out.symm hown hbel
set_option maxRecDepth 100000 in
theorem iNeeded (n : Int) (A : Option Addr) (c : Nat) (L : List Ln) (p q : Int) (hL1 : L.length ≤ 1048576) (hcap : L.length ≤ c) (hcm : c ≤ maxLen) (w : World) (hL : Lns w w.heap.size A L) :
    Calls Try.prog 46 #[.int .i64 n, .slice A L.length c, .int .i64 p, .int .i64 q] w (Sl1Post (fun xs => xs = needV n L p q) w) := by
  have HM := Lib.hid (fun w hL => iTrafficMost n A c L p q hL1 w hL)
  cases h1 : twoOk n L p q with
  | false =>
    have HV : Hid (needV n L p q = []) := by show _ = _; rw [needV, h1]; rfl
    have h0 : mostV n L p q = -1 := by rw [mostV, h1]; rfl
    rw [h0] at HM
    clear h1 h0
    have hown := Own.lit0 w w.heap.size (Nat.le_refl _)
    have hb0 : Below w.heap.size w (w.alloc (.cells #[] 3)) := (Below.refl _ _).alloc (Nat.le_refl _) _
    go_enter Try.func46, Try.ntmps46
    go_wp2_with fail
    refine (HM.out _ ((hL.below hb0).more hb0.size)).mono ?_
    rintro e w1 ⟨r, rfl, rfl, hb1⟩
    replace hown := hown.below hb1
    replace hb1 := hb0.trans (hb1.mono hb0.size)
    go_wp2_with fail
    go_ret
    exact Sl1Post.mk HV.out.symm hown hb1
  | true =>
    obtain ⟨hn, _⟩ := twoOk_n h1
    obtain ⟨_, _, hL10, _⟩ := netOk_n hn
    have HV : Hid (needV n L p q = needTo n L p q L.length) := by show _ = _; rw [needV, h1]; rfl
    have HLs := Lib.hid (fun w hL => iLeft n A c L p q h1 hcap hcm w hL)
    have HG := Lib.hid (fun k (hk : k < L.length) => leftV_get (n := n) (p := p) (q := q) hk)
    have HLL := Lib.hid (leftV_len n L p q)
    have HB0 := mostV_bound h1
    have HY := Lib.hid (fun k h => need_yes (n := n) (L := L) (p := p) (q := q) (k := k) h)
    have HNo := Lib.hid (fun k h => need_no (n := n) (L := L) (p := p) (q := q) (k := k) h)
    obtain ⟨t, ht⟩ : ∃ t, t = mostV n L p q := ⟨_, rfl⟩
    rw [← ht] at HM HY HNo HB0
    obtain ⟨X, hX⟩ : ∃ X, X = leftV n L p q := ⟨_, rfl⟩
    rw [← hX] at HLs HG HLL
    obtain ⟨m, hm⟩ : ∃ m, m = L.length := ⟨_, rfl⟩
    rw [← hm] at hL1 hL10 hcap HM HV HLs HG HLL ⊢
    clear hm h1 hn ht hX
    obtain ⟨hb01, hb02⟩ := HB0
    have hown := Own.lit0 w w.heap.size (Nat.le_refl _)
    have hb0 : Below w.heap.size w (w.alloc (.cells #[] 3)) := (Below.refl _ _).alloc (Nat.le_refl _) _
    go_enter Try.func46, Try.ntmps46
    go_wp2_with fail
    refine (HM.out _ ((hL.below hb0).more hb0.size)).mono ?_
    rintro e w1 ⟨r, rfl, rfl, hb1⟩
    replace hown := hown.below hb1
    replace hb1 := hb0.trans (hb1.mono hb0.size)
    clear hb0
    go_wp2_with fail
    refine (HLs.out _ ((hL.below hb1).more hb1.size)).mono ?_
    rintro e w2 ⟨AX, cx, X', rfl, rfl, hox, hb2⟩
    replace hown := hown.below hb2
    have hb3 := hb1.trans (hb2.mono hb1.size)
    have hw21 := Nat.le_trans hb1.size hb2.size
    have hXw := hox.iv
    have HXl := Lib.hid HLL.out
    rw [HLL.out]
    clear hb1 hb2 hox
    go_wp2_with fail
    go_loopw [9, 11, 12, 28] (fun v _ _ i wr => ∃ (k ll : Nat) (A' : Option Addr) (c' : Nat), k ≤ m ∧ i = .int .i64 k ∧ v = .slice A' ll c' ∧ ll ≤ k ∧ ((ll = 0 ∧ A' = some ⟨w.heap.size, 0, none⟩ ∧ c' = 0 ∧ needTo n L p q k = []) ∨ Own wr w2.heap.size (.slice A' ll c') (needTo n L p q k)) ∧ Below w2.heap.size w2 wr) (fun _ _ _ i _ => m - (intOf i).toNat)
    case atStart => exact ⟨0, 0, _, _, by omega, rfl, rfl, by omega, .inl ⟨rfl, rfl, rfl, rfl⟩, Below.refl _ _⟩
    case round =>
      obtain ⟨k, ll, A', c', hk, rfl, rfl, hll, hor, hbel⟩ := hrel
      by_cases hkm : k < m
      · obtain ⟨bx, ox, rfl, _, hbx, hcx⟩ := (hXw.below hbel (Nat.le_refl _)) (by rw [HXl.out]; omega)
        have hg := HG.out k hkm
        have hcx1 := hcx k _ hg
        have hy := HY.out k
        have hno := HNo.out k
        obtain ⟨u, hu⟩ : ∃ u, u = mostV n (L.eraseIdx k) p q := ⟨_, rfl⟩
        rw [← hu] at hy hno hcx1
        replace hy := Lib.hid hy
        replace hno := Lib.hid hno
        have hsz := hbel.size
        clear hu hg hcx
        by_cases htu : u < r
        · have hstep := Lib.hid (hy.out htu)
          rcases hor with ⟨rfl, rfl, rfl, hnil⟩ | hown'
          · have Hnil := Lib.hid hnil
            clear hnil
            go_wp2_with (at_builtin; refine app0 _ rfl _ _ rfl w.heap.size rfl ⟨wr.heap.size, 0, none⟩ (k : Int) rfl (alloc1_cell rfl) ?_; intro A3 c3 w4 hown4 hgr4)
            have hb4 : Below w2.heap.size w2 w4 := (hbel.alloc hsz (Obj.cells #[.int .i64 (k : Int)] 3)).grown hgr4 (by simp; omega) (fun j hj => by cases hj)
            replace hown4 := hown4.more (B' := w2.heap.size) (by simp; omega)
            have he : [(k : Int)] = needTo n L p q (k + 1) := by rw [← hstep.out, Hnil.out]; rfl
            rw [he] at hown4
            clear hgr4 he hbel
            go_wp2_with fail
            go_roundw
            case rel => exact ⟨k + 1, 1, A3, c3, by omega, by go_num, rfl, by omega, .inr hown4, hb4⟩
            case measure => simp [intOf]; omega
          · have hlen : Hid ((needTo n L p q k).length = ll) := hown'.len.symm
            go_wp2_with (at_builtin; refine app1 _ rfl _ _ rfl w2.heap.size _ _ rfl (Own.alloc hown' (Obj.cells #[.int .i64 (k : Int)] 3)) ll hlen.out ⟨wr.heap.size, 0, none⟩ (k : Int) rfl (alloc1_cell rfl) (by omega) (by simp; omega) ?_; intro A3 c3 w4 hown4 hgr4)
            rw [hstep.out] at hown4
            have hb4 : Below w2.heap.size w2 w4 := Own.grownBelow (hown'.alloc _) hgr4 (hbel.alloc hsz _) (Nat.le_refl _) (by simp; omega)
            clear hgr4 hown' hbel
            go_wp2_with fail
            go_roundw
            case rel => exact ⟨k + 1, ll + 1, A3, c3, by omega, by go_num, rfl, by omega, .inr hown4, hb4⟩
            case measure => simp [intOf]; omega
        · have hstep := Lib.hid (hno.out (by omega))
          rw [hstep.out] at hor
          replace hor := Lib.hid hor
          go_wp2_with fail
          go_roundw
          case rel => exact ⟨k + 1, ll, A', c', by omega, by go_num, rfl, by omega, hor.out, hbel⟩
          case measure => simp [intOf]; omega
      · obtain rfl : k = m := by omega
        replace hor := Lib.hid hor
        go_wp2_with fail
        go_ret
        have hb5 := hb3.trans (hbel.mono hb3.size)
        rcases hor.out with ⟨rfl, rfl, rfl, hnil⟩ | hown'
        · exact Sl1Post.mk (hnil.symm.trans HV.out.symm) (hown.below hbel) hb5
        · exact Sl1Post.mk HV.out.symm (hown'.more hb3.size) hb5
theorem sNeeded' (n : Int) (A : Option Addr) (c : Nat) (L : List Ln) (p q : Int) (hL1 : L.length ≤ 1048576) (w : World) (hL : Lns w w.heap.size A L) (hcap : L.length ≤ c := by exact Nat.le_refl _) :
    Calls Try.prog 49 #[.int .i64 n, .slice A L.length c, .int .i64 p, .int .i64 q] w (Sp1Post (fun xs => xs = needV n L p q) w) := (sNeeded n A c L p q hL1 hcap w hL).mono fun _ _ h => h.sp
theorem iNeeded' (n : Int) (A : Option Addr) (c : Nat) (L : List Ln) (p q : Int) (hL1 : L.length ≤ 1048576) (w : World) (hL : Lns w w.heap.size A L) (hcap : L.length ≤ c := by exact Nat.le_refl _) (hcm : c ≤ maxLen := by unfold maxLen; omega) :
    Calls Try.prog 46 #[.int .i64 n, .slice A L.length c, .int .i64 p, .int .i64 q] w (Sl1Post (fun xs => xs = needV n L p q) w) := iNeeded n A c L p q hL1 hcap hcm w hL
theorem eq_fn {α : Type} {v : α} (r s : α) (h : r = v) (k : s = v) : r = s := h.trans k.symm
theorem needV_len {n : Int} {L : List Ln} {p q : Int} {xs : List Int} (h : xs = needV n L p q) : xs.length ≤ 1048576 := by
  subst h
  cases h1 : twoOk n L p q with
  | false => rw [needV, h1]; simp
  | true =>
    obtain ⟨hn, _⟩ := twoOk_n h1
    obtain ⟨_, _, hL10, _⟩ := netOk_n hn
    rw [needV, if_pos h1]
    have := need_len n L p q L.length
    omega
end Go.Proofs.Ytkcfclkpbmeaiaa
