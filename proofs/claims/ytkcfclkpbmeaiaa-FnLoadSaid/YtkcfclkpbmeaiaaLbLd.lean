/- The law FnLoad, walked. -/
import Derived.Test.YtkcfclkpbmeaiaaLawQ
import Derived.Test.YtkcfclkpbmeaiaaDraw3
import Derived.Test.YtkcfclkpbmeaiaaLoad3
namespace Go.Proofs.Ytkcfclkpbmeaiaa
set_option linter.unusedVariables false
set_option linter.unusedSimpArgs false
open Go.RowKit
set_option maxRecDepth 100000 in
theorem law_Load (a0 : Option Addr) (len0 cap0 : Nat) (z0 : List Int) (w : World) (w0 : ArgB w a0 len0 cap0 z0) :
    Calls Try.prog 3 #[.slice a0 len0 cap0] w fun e w' => e = .returned (.bool true) ∧ Below w.heap.size w w' := by
  obtain ⟨hl0, hm0, hby0⟩ := w0.byt
  have hm0' := hm0
  unfold maxLen at hm0'
  by_cases h0 : 1048576 < len0
  · go_enter Try.func3, Try.ntmps3
    go_wp2_with fail
    go_ret
    exact ⟨rfl, Below.refl _ _⟩
  have hdr := Lib.hid (drawLoadValid a0 len0 cap0 hl0 hm0 _ hby0)
  go_enter Try.func3, Try.ntmps3
  go_wp2_with fail
  refine hdr.out.mono ?_
  rintro e w1 ⟨n, A, c, L, p, q, F, cf, f, rfl, hn2, hn5, hL7, hp0, hp5, hq0, hq5, hoL, hoF, hf7, hbw⟩
  have hcc : L.length ≤ c ∧ c ≤ maxLen := by
    obtain ⟨A0, c0, e0, h1, h2⟩ := hoL.form
    injection e0 with _ _ e0
    subst e0
    exact ⟨h1, h2⟩
  replace hcc := Lib.hid hcc
  have hL : Hid (Lns w1 w1.heap.size A L) := hoL.lns
  have hL1 : L.length ≤ 1048576 := by omega
  have hb := Below.refl w1.heap.size w1
  clear hdr hoL hby0 hm0
  have hf1 : f.length ≤ 1048576 := by omega
  go_wp2_with fail
  refine (iLoadValid n A c L p q F cf f hL1 hf1 _ ((hL.out.below hb).more hb.size) (hoF.iv.more (Nat.zero_le _) (Nat.le_refl _))).mono ?_
  rintro e w2 ⟨r, rfl, hr, hb2⟩
  replace hoF := hoF.below hb2
  replace hb := hb.trans (hb2.mono hb.size)
  clear hb2
  replace hr := Lib.hid hr
  go_wp2_with fail
  refine (sLoadValid n A c L p q F cf f hL1 hf1 _ ((hL.out.below hb).more hb.size) (hoF.iv.more (Nat.zero_le _) (Nat.le_refl _))).mono ?_
  rintro e w3 ⟨r', rfl, hr', hb3⟩
  replace hoF := hoF.below hb3
  replace hb := hb.trans (hb3.mono hb.size)
  clear hb3
  obtain rfl : r' = r := by rw [Bool.eq_iff_iff]; exact hr'.trans hr.out.symm
  clear hr'
  cases r' with
  | false =>
    go_wp2_with fail
    go_ret
    exact ⟨rfl, hbw.trans (hb.mono hbw.size)⟩
  | true =>
    have hP := Lib.hid (hr.out.1 rfl)
    have hbk := Lib.hid (load_back hP.out)
    have hze := Lib.hid (load_zero hP.out.1)
    have hnk := Lib.hid (fun k x (h : (f.map fun x => 0 - x)[k]? = some x) => take_next h)
    have hbd : Hid (∀ k x, f[k]? = some x → -9 ≤ x ∧ x ≤ 9 ∧ (f.map fun x => 0 - x)[k]? = some (-x)) := fun k x hx => by
      have hk : k < L.length := by rw [← hP.out.2.1]; exact (List.getElem?_eq_some_iff.1 hx).1
      have h1 := caps_get hP.out.2.2.1 (List.getElem?_eq_getElem hk) hx
      obtain ⟨n2, n6, hlen10, hin⟩ := netOk_n (twoOk_n hP.out.1).1
      have h2 := hin _ (List.getElem_mem hk)
      exact ⟨by omega, by omega, by rw [List.getElem?_map, hx]; show some (0 - x) = _; rw [Int.zero_sub]⟩
    have hFi := Lib.hid hoF.iv
    have hlen := Lib.hid hP.out.2.1
    obtain ⟨g, hg⟩ : ∃ g, g = f.map fun x => 0 - x := ⟨_, rfl⟩
    have hgl : Hid (g.length = f.length) := by show _ = _; rw [hg, List.length_map]
    rw [← hg] at hbk hbd hnk
    clear hg hr
    have hmk := fun w => mk_row (P := Try.prog) 24 3 (.int .i64 0) 8 Try.underlying24 intInfo rfl (L.length : Int) L.length rfl (by omega) (by omega) w
    obtain ⟨m, hm⟩ : ∃ m, m = f.length := ⟨_, rfl⟩
    have hoF' := Lib.hid hoF
    rw [← hm] at hf7 hf1 ⊢
    have Hm := Lib.hid hm
    clear hm hoF
    go_wp2_with fail
    go_loopw [10, 11] (fun v i wr => ∃ (k : Nat) (A' : Option Addr) (c' : Nat), k ≤ m ∧ i = .int .i64 k ∧ v = .slice A' k c' ∧ Own wr w3.heap.size (.slice A' k c') (g.take k) ∧ Below w3.heap.size w3 wr) (fun _ i _ => m - (intOf i).toNat)
    case atStart => exact ⟨0, _, _, by omega, rfl, rfl, by rw [List.take_zero]; exact Own.lit0 w3 w3.heap.size (Nat.le_refl _), (Below.refl _ _).alloc (Nat.le_refl _) _⟩
    case round =>
      obtain ⟨k, A', c', hk, rfl, rfl, hown, hbel⟩ := hrel
      by_cases hkm : k < m
      · obtain ⟨bf, of, rfl, _, hbf, hcf⟩ := hFi.out (by rw [← Hm.out]; omega)
        obtain ⟨x, hx⟩ : ∃ x, f[k]? = some x := ⟨f[k]'(by rw [← Hm.out]; exact hkm), List.getElem?_eq_getElem _⟩
        have c1 := (hbel.cell (p := ⟨bf, _, none⟩) hbf).trans (hcf k x hx)
        obtain ⟨hx0, hx9, hgk⟩ := hbd.out k x hx
        have hn9 := Lib.hid (hnk.out k _ hgk)
        have hlk : Hid ((g.take k).length = k) := by show _ = _; rw [List.length_take, hgl.out, ← Hm.out]; omega
        clear hcf hx hgk
        go_wp2_with (at_builtin; refine app1 _ rfl _ _ rfl w3.heap.size _ _ rfl (Own.alloc hown (Obj.cells #[.int .i64 (-x)] 3)) k hlk.out ⟨wr.heap.size, 0, none⟩ (-x) rfl (alloc1_cell rfl) (by omega) (by simp; have := hbel.size; omega) ?_; intro A3 c3 w8 hown8 hgr8)
        have hba := (Own.alloc hown (Obj.cells #[.int .i64 (-x)] 3)).block
        have hb8 := Own.grownBelow (Own.alloc hown (Obj.cells #[.int .i64 (-x)] 3)) hgr8 (hbel.alloc hbel.size _) (Nat.le_refl _) (by simp; have := hbel.size; omega)
        go_wp2_with fail
        go_roundw
        case rel => exact ⟨k + 1, A3, c3, by omega, by go_num, rfl, by rw [← hn9.out]; exact hown8, hb8⟩
        case measure => simp [intOf]; omega
      · obtain rfl : k = m := by omega
        have hFo := Lib.hid (hoF'.out.below hbel)
        have hgt : g.take k = g := List.take_of_length_le (by rw [hgl.out, ← Hm.out]; exact Nat.le_refl _)
        rw [hgt] at hown
        replace hb := hb.trans (hbel.mono hb.size)
        clear hbel hgt
        have hgk : Hid (g.length = k) := by show _ = _; rw [hgl.out, Hm.out]
        have hT1 := Lib.hid (fun w hL hF => iLoadTraffic n A c L p q F cf f hL1 (by rw [← Hm.out]; exact hf1) w hL hF)
        rw [← Hm.out] at hT1
        have hT2 := Lib.hid (fun A' c' w hL hF => iLoadTraffic n A c L q p A' c' g hL1 (by rw [hgk.out]; exact hf1) w hL hF)
        rw [hgk.out] at hT2
        have hT3 := Lib.hid (fun A' c' w hL hF => iLoadTraffic n A c L p q A' c' (List.replicate L.length 0) hL1 (by rw [List.length_replicate]; exact hL1) w hL hF)
        rw [List.length_replicate] at hT3
        go_wp2_with fail
        refine (hT1.out _ ((hL.out.below hb).more hb.size) (hFo.out.iv.more (Nat.zero_le _) (Nat.le_refl _))).mono ?_
        rintro e w4 ⟨x, rfl, hx, hb4⟩
        replace hown := hown.below hb4
        replace hb := hb.trans (hb4.mono hb.size)
        clear hb4
        replace hx := Lib.hid (show x = outAt L f p by
          rcases hx with ⟨_, e⟩ | ⟨h, _⟩
          · exact e
          · exact absurd hP.out h)
        go_wp2_with fail
        refine (hT2.out _ _ _ ((hL.out.below hb).more hb.size) (hown.iv.more (Nat.zero_le _) (Nat.le_refl _))).mono ?_
        rintro e w5 ⟨y, rfl, hy, hb5⟩
        replace hown := hown.below hb5
        replace hb := hb.trans (hb5.mono hb.size)
        clear hb5
        obtain rfl : y = x := by
          rcases hy with ⟨_, e⟩ | ⟨h, _⟩
          · rw [e, hbk.out.2, hx.out]
          · exact absurd hbk.out.1 h
        clear hy hown
        have hmo := Lib.hid (made_own w5 w5.heap.size L.length (Nat.le_refl _) (by omega))
        replace hb := hb.alloc hb.size (Obj.cells (madeCells #[.int .i64 0] L.length) 3)
        go_wp2_with fail
        refine (hT3.out _ _ _ ((hL.out.below hb).more hb.size) (hmo.out.iv.more (Nat.zero_le _) (Nat.le_refl _))).mono ?_
        rintro e w6 ⟨y, rfl, hy, hb6⟩
        replace hb := hb.trans (hb6.mono hb.size)
        clear hb6
        obtain rfl : y = 0 := by
          rcases hy with ⟨_, e⟩ | ⟨h, _⟩
          · rw [e, hze.out.2]
          · exact absurd hze.out.1 h
        clear hy
        go_wp2_with fail
        go_ret
        exact ⟨rfl, hbw.trans (hb.mono hbw.size)⟩
end Go.Proofs.Ytkcfclkpbmeaiaa
