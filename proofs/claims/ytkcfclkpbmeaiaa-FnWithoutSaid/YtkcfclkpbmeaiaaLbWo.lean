/- The law FnWithout, walked. -/
import Derived.Deep.RegionHeld3
import Derived.Test.YtkcfclkpbmeaiaaLawQ
import Derived.Test.YtkcfclkpbmeaiaaDraw3
import Derived.Test.YtkcfclkpbmeaiaaHelpL
import Derived.Test.YtkcfclkpbmeaiaaMarkH
import Derived.Test.YtkcfclkpbmeaiaaTraf
namespace Go.Proofs.Ytkcfclkpbmeaiaa
set_option linter.unusedVariables false
set_option linter.unusedSimpArgs false
open Go.RowKit
set_option maxHeartbeats 2000000 in
set_option maxRecDepth 100000 in
theorem law_Without (a0 : Option Addr) (len0 cap0 : Nat) (z0 : List Int) (a1 : Option Addr) (len1 cap1 : Nat) (z1 : List Int) (w : World) (w0 : ArgB w a0 len0 cap0 z0) (w1 : ArgB w a1 len1 cap1 z1) :
    Calls Try.prog 4 #[.slice a0 len0 cap0, .slice a1 len1 cap1] w fun e w' => e = .returned (.bool true) ∧ Below w.heap.size w w' := by
  obtain ⟨hl0, hm0, hby0⟩ := w0.byt
  have hm0' := hm0
  unfold maxLen at hm0'
  obtain ⟨hl1, hm1, hby1⟩ := w1.byt
  have hm1' := hm1
  unfold maxLen at hm1'
  by_cases h0 : 1048576 < len0
  · go_enter Try.func4, Try.ntmps4
    go_wp2_with fail
    go_ret
    exact ⟨rfl, Below.refl _ _⟩
  by_cases h1 : 1048576 < len1
  · go_enter Try.func4, Try.ntmps4
    go_wp2_with fail
    go_ret
    exact ⟨rfl, Below.refl _ _⟩
  have hdr := Lib.hid (drawNetWithout a0 len0 cap0 hl0 hm0 _ hby0)
  go_enter Try.func4, Try.ntmps4
  go_wp2_with fail
  refine hdr.out.mono ?_
  rintro e w1 ⟨n, A, c, L, kk, rfl, hn2, hn5, hL7, hk0, hk7, hoL, hbw⟩
  have hcc : L.length ≤ c ∧ c ≤ maxLen := by
    obtain ⟨A0, c0, e0, h1, h2⟩ := hoL.form
    injection e0 with _ _ e0
    subst e0
    exact ⟨h1, h2⟩
  replace hcc := Lib.hid hcc
  have hL : Hid (Lns w1 w1.heap.size A L) := hoL.lns
  have hL1 : L.length ≤ 1048576 := by omega
  have hb := Below.refl w1.heap.size w1
  clear hdr hoL hby0 hm0
  go_wp2_with fail
  refine (iNetWithout n A c L kk hL1 _ ((hL.out.below hb).more hb.size) hcc.out.1 hcc.out.2).mono ?_
  rintro e w2 ⟨A2, c2, M, ok, rfl, hR, hH2, hb2⟩
  replace hb := hb.trans (hb2.mono hb.size)
  clear hb2
  replace hR := Lib.hid hR
  go_wp2_with fail
  refine (sNetWithout n A c L kk hL1 hcc.out.1 _ ((hL.out.below hb).more hb.size)).mono ?_
  rintro e w3 ⟨A3, c3, M', ok', rfl, hR', hO3, hb3⟩
  replace hH2 := hH2.below hb3
  replace hb := hb.trans (hb3.mono hb.size)
  clear hb3
  obtain rfl : M' = M := hR'.1.trans hR.out.1.symm
  obtain rfl : ok' = ok := hR'.2.trans hR.out.2.symm
  clear hR'
  have hM1 : M'.length ≤ 1048576 := by
    rw [hR.out.1, woutV]
    split
    · have := List.length_eraseIdx_le L kk.toNat; omega
    · simp
  cases ok' with
  | false =>
    go_wp2_with fail
    refine (sameLines_same _ _ _ _ M' hM1 _ hH2.lns hO3.lns).mono ?_
    rintro e w4 ⟨rfl, hb4⟩
    replace hH2 := hH2.below hb4
    replace hO3 := hO3.below hb4
    replace hb := hb.trans (hb4.mono hb.size)
    clear hb4
    go_wp2_with fail
    refine (sameLines_same _ _ _ _ M' hM1 _ hH2.lns hO3.lns).mono ?_
    rintro e w5 ⟨rfl, hb5⟩
    replace hH2 := hH2.below hb5
    replace hO3 := hO3.below hb5
    replace hb := hb.trans (hb5.mono hb.size)
    clear hb5
    go_wp2_with fail
    go_ret
    exact ⟨rfl, hbw.trans (hb.mono hbw.size)⟩
  | true =>
    go_wp2_with fail
    refine (sameLines_same _ _ _ _ M' hM1 _ hH2.lns hO3.lns).mono ?_
    rintro e w4 ⟨rfl, hb4⟩
    replace hH2 := hH2.below hb4
    replace hO3 := hO3.below hb4
    replace hb := hb.trans (hb4.mono hb.size)
    clear hb4
    clear hO3
    have hwk : woutOk n L kk = true := hR.out.2.symm
    have hwk' := hwk
    unfold woutOk at hwk'
    rw [Bool.and_eq_true, inB_iff] at hwk'
    obtain ⟨hnet, hkk0, hkk1⟩ := hwk'
    obtain ⟨k, rfl⟩ := Int.eq_ofNat_of_zero_le hkk0
    have hM := hR.out.1
    rw [woutV, if_pos hwk, Int.toNat_natCast] at hM
    have hkl : k < L.length := by omega
    obtain ⟨l, hl⟩ : ∃ l, L[k]? = some l := ⟨_, List.getElem?_eq_getElem hkl⟩
    have hMl : M'.length = L.length - 1 := by rw [hM, List.length_eraseIdx_of_lt hkl]
    obtain ⟨n2, n6, _, hin⟩ := netOk_n hnet
    have hlb := hin l (List.mem_of_getElem? hl)
    obtain ⟨m, hm⟩ : ∃ m, m = L.length := ⟨_, rfl⟩
    obtain ⟨a, ha⟩ : ∃ a, a = (len1 : Int) % n := ⟨_, rfl⟩
    have ha0 : 0 ≤ a := by rw [ha]; exact Int.emod_nonneg _ (by omega)
    have han : a < n := by rw [ha]; exact Int.emod_lt_of_pos _ (by omega)
    obtain ⟨y, hy⟩ : ∃ y, y = (len1 : Int) / 7 % (n - 1) := ⟨_, rfl⟩
    have hy0 : 0 ≤ y := by rw [hy]; exact Int.emod_nonneg _ (by omega)
    have hyn : y < n - 1 := by rw [hy]; exact Int.emod_lt_of_pos _ (by omega)
    obtain ⟨hb0, hbn, hba⟩ := other_side n2 ha0 han hy0 hyn
    obtain ⟨b, hbb⟩ : ∃ b, b = (a + 1 + y) % n := ⟨_, rfl⟩
    rw [← hbb] at hb0 hbn hba
    have h2 := two_of hnet ha0 han hb0 hbn (fun e => hba e.symm)
    have hd := wout_d hl h2
    have hown := wout_own hl hnet
    have bd1 := mostV_bound h2
    have bd2 := mostV_bound (two_erase h2 k)
    have h2' := two_of hnet (a := l.a) (b := l.b) (by omega) (by omega) (by omega) (by omega) (by omega)
    have bd3 := mostV_bound h2'
    have bd4 := mostV_bound (two_erase h2' k)
    rw [← hM] at hd hown bd2 bd4
    have HT1 := Lib.hid (fun p q w hL => iTrafficMost n A c L p q hL1 w hL)
    have HT2 := Lib.hid (fun p q w hL => iTrafficMost n A2 c2 M' p q hM1 w hL)
    have hLb := Lib.hid (fun (w' : World) (h : Below w1.heap.size w1 w') => ((hL.out.below h).more h.size))
    have hne1 : ¬ n = 0 := by omega
    have hne2 : ¬ n - 1 = 0 := by omega
    have hll : ∃ bL off, A = some ⟨bL, off, none⟩ ∧ w4.cell? ⟨bL, off + k * 3, none⟩ = some (.int .i64 l.a) ∧ w4.cell? ⟨bL, off + k * 3 + 1, none⟩ = some (.int .i64 l.b) ∧ w4.cell? ⟨bL, off + k * 3 + 2, none⟩ = some (.int .i64 l.c) := by
      obtain ⟨bL, off, e, _, hc⟩ := ((hL.out.below hb).more hb.size) (by omega)
      exact ⟨bL, off, e, hc k l hl⟩
    obtain ⟨bL, off, rfl, c1, c2', c3'⟩ := hll
    subst hbb
    subst hy
    subst ha
    have HM := Lib.hid hM
    have HMl := Lib.hid hMl
    have tl := bT (show ((M'.length : Nat) : Int) = ((L.length : Nat) : Int) - 1 by omega)
    have Hown := Lib.hid hown
    clear hM hMl hown hR hwk hl hnet hm
    go_wp2_with fail
    refine (HT1.out _ _ _ (hLb.out _ (hb.alloc hb.size _))).mono ?_
    rintro e w8 ⟨x1, rfl, hx1, hb8⟩
    have hs := Row.newS w4 36 #[.int .i64 l.a, .int .i64 l.b, .int .i64 l.c] (g := w4.heap.size) rfl rfl
    replace hs := hs.below hb8 hs.lt
    replace hH2 := (hH2.below ((Below.refl _ _).alloc (Nat.le_refl _) (Obj.cells #[.int .i64 l.a, .int .i64 l.b, .int .i64 l.c] 36))).below hb8
    replace hb := (hb.alloc hb.size _).trans (hb8.mono (hb.alloc hb.size _).size)
    replace hx1 := Lib.hid hx1
    clear hb8 c1 c2' c3'
    go_wp2_with fail
    refine (HT2.out _ _ _ hH2.lns).mono ?_
    rintro e w9 ⟨x2, rfl, hx2, hb9⟩
    replace hs := hs.below hb9 hs.lt
    replace hH2 := hH2.below hb9
    replace hb := hb.trans (hb9.mono hb.size)
    replace hx2 := Lib.hid hx2
    clear hb9
    rw [← hx1.out, ← hx2.out] at hd
    rw [← hx1.out] at bd1
    rw [← hx2.out] at bd2
    have f0 := hs.cellI (i := 0) (v := .int .i64 l.a) rfl
    have f1 := hs.cellI (i := 1) (v := .int .i64 l.b) rfl
    have f2 := hs.cellI (i := 2) (v := .int .i64 l.c) rfl
    have hsl : w4.heap.size < w9.heap.size := hs.lt
    have HL9 := Lib.hid (hLb.out _ hb)
    have HM9 := Lib.hid hH2.lns
    have HBz : Hid (∀ wA wB, Below w9.drew.heap.size w9.drew wA → Below wA.heap.size wA wB → Below w.heap.size w wB) := fun wA wB h1 h2 => by
      have h1' : Below w9.heap.size w9 wA := ⟨h1.os, h1.tape, h1.output, h1.size, h1.block⟩
      have h3 := hb.trans (h1'.mono hb.size)
      have h4 := h3.trans (h2.mono h3.size)
      exact hbw.trans (h4.mono hbw.size)
    have Hfin : Hid (∀ x3 x4 : Int, x3 = mostV n L l.a l.b → x4 = mostV n M' l.a l.b → x3 - x4 = l.c ∧ 0 ≤ x3 ∧ x3 ≤ 90 ∧ 0 ≤ x4 ∧ x4 ≤ 90) := fun x3 x4 h3 h4 => by
      rw [h3, h4]; exact ⟨Hown.out, bd3.1, bd3.2, bd4.1, bd4.2⟩
    have hcc9 : 1 ≤ l.c ∧ l.c ≤ 9 := ⟨by omega, by omega⟩
    have HT2' := Lib.hid (fun wA (h : Below w9.drew.heap.size w9.drew wA) => HT2.out l.a l.b wA ((hH2.below (w' := wA) ⟨h.os, h.tape, h.output, h.size, h.block⟩).lns))
    clear hH2 hLb bd3 bd4 hs hb
    go_wp2_with fail
    go_region_held3 (fun w' => w'.cell? ⟨w4.heap.size, 0, none⟩ = some (.int .i64 l.a) ∧ w'.cell? ⟨w4.heap.size, 1, none⟩ = some (.int .i64 l.b)) (first | exact ⟨f0, f1⟩ | exact ⟨p0, p1⟩ | exact ⟨q0, q1⟩) (first
      | (go_at_call_of 22 (Value.slice A2 M'.length c2); refine (HT2'.out _ hbA).mono ?_; rintro e wB ⟨x4, rfl, hx4, hbB⟩; have p0 := (hbB.cell (Nat.lt_of_lt_of_le hsl hbA.size)).trans q0; have p1 := (hbB.cell (Nat.lt_of_lt_of_le hsl hbA.size)).trans q1; have p2 := (hbB.cell (Nat.lt_of_lt_of_le hsl hbA.size)).trans q2; obtain ⟨g1, g2, g3, g4, g5⟩ := Hfin.out x3 x4 hx3.out hx4; have ew : IntKind.i64.wrap (x3 - x4) = x3 - x4 := IntWalk.i64_in _ (by omega); have HB := HBz.out wA wB hbA hbB; have tg := bT g1; clear hx3 hx4 q0 q1 q2)
      | (go_at_call 22; refine (HT1.out l.a l.b w9.drew HL9.out).mono ?_; rintro e wA ⟨x3, rfl, hx3, hbA⟩; replace hx3 := Lib.hid hx3; have q0 := (hbA.cell hsl).trans f0; have q1 := (hbA.cell hsl).trans f1; have q2 := (hbA.cell hsl).trans f2))
    all_goals go_simp
    all_goals go_wp2_with fail
    all_goals trace_state
    all_goals go_ret
    all_goals exact ⟨rfl, HB⟩
end Go.Proofs.Ytkcfclkpbmeaiaa
