/- What is lost without a line: l7Less and leftWithout, walked. -/
import Derived.Test.YtkcfclkpbmeaiaaWout2
import Derived.Test.YtkcfclkpbmeaiaaTree
namespace Go.Proofs.Ytkcfclkpbmeaiaa
set_option linter.unusedVariables false
set_option linter.unusedSimpArgs false
open Go.RowKit
theorem net_erase {n : Int} {L : List Ln} (h : netOk n L = true) (k : Nat) : netOk n (L.eraseIdx k) = true := by
  unfold netOk at h ⊢
  simp only [Bool.and_eq_true, List.all_eq_true, decide_eq_true_eq] at h ⊢
  obtain ⟨⟨h1, h2⟩, h3⟩ := h
  exact ⟨⟨fun l hl => h1 l (List.mem_of_mem_eraseIdx hl), h2⟩, Nat.le_trans (List.length_eraseIdx_le _ _) h3⟩
theorem two_erase {n : Int} {L : List Ln} {p q : Int} (h : twoOk n L p q = true) (k : Nat) : twoOk n (L.eraseIdx k) p q = true := by
  unfold twoOk at h ⊢
  rw [Bool.and_eq_true] at h ⊢
  exact ⟨net_erase h.1 k, h.2⟩
theorem mostV_bound {n : Int} {L : List Ln} {p q : Int} (h : twoOk n L p q = true) : 0 ≤ mostV n L p q ∧ mostV n L p q ≤ 90 := by
  obtain ⟨nn, pp, qq, rfl, rfl, rfl, n2, n6, hp, hq, hpq, hin, hL10⟩ := two_nat h
  rw [mostV_nat h]
  have := (most_ok hin hL10 hp hq hpq).run.le hin hp hpq
  omega
def leftV (n : Int) (L : List Ln) (p q : Int) : List Int := (List.range L.length).map fun k => mostV n (L.eraseIdx k) p q
theorem leftV_len (n : Int) (L : List Ln) (p q : Int) : (leftV n L p q).length = L.length := by simp [leftV]
theorem leftV_get {n : Int} {L : List Ln} {p q : Int} {k : Nat} (hk : k < L.length) : (leftV n L p q)[k]? = some (mostV n (L.eraseIdx k) p q) := by simp [leftV, hk]
theorem take_next {xs : List Int} {k : Nat} {x : Int} (h : xs[k]? = some x) : xs.take k ++ [x] = xs.take (k + 1) := by rw [List.take_add_one, h]; rfl
set_option maxRecDepth 100000 in
theorem sLess (n : Int) (A : Option Addr) (c : Nat) (L : List Ln) (p q : Int) (kk : Nat) (h2 : twoOk n L p q = true) (hk : kk < L.length) (hcap : L.length ≤ c) (w : World) (hL : Lns w w.heap.size A L) :
    Calls Try.prog 72 #[.int .i64 n, .slice A L.length c, .int .i64 p, .int .i64 q, .int .i64 kk] w fun e w' => e = .returned (.int .i64 (mostV n L p q - mostV n (L.eraseIdx kk) p q)) ∧ Below w.heap.size w w' := by
  obtain ⟨hn, _⟩ := twoOk_n h2
  obtain ⟨_, _, hL10, _⟩ := netOk_n hn
  have hw := Lib.hid (sNetWithout n A c L kk (by omega) hcap w hL)
  have hm1 := Lib.hid (fun w hL => sTrafficMost n A c L p q (by omega) w hL)
  have hm2 := Lib.hid (fun A c w hL => sTrafficMost n A c (L.eraseIdx kk) p q (by have := List.length_eraseIdx_le L kk; omega) w hL)
  have hW : Hid (woutV n L kk = L.eraseIdx kk) := by
    show _ = _
    rw [woutV, woutOk, hn, inB_iff.2 (by omega)]; rfl
  obtain ⟨b1, b2⟩ := mostV_bound h2
  obtain ⟨b3, b4⟩ := mostV_bound (two_erase h2 kk)
  obtain ⟨t1, ht1⟩ : ∃ t, t = mostV n L p q := ⟨_, rfl⟩
  obtain ⟨t2, ht2⟩ : ∃ t, t = mostV n (L.eraseIdx kk) p q := ⟨_, rfl⟩
  rw [← ht1] at b1 b2 hm1 ⊢
  rw [← ht2] at b3 b4 hm2 ⊢
  clear ht1 ht2 h2 hn
  go_enter Try.func72, Try.ntmps72
  go_wp2_with fail
  refine hw.out.mono ?_
  rintro e w1 ⟨A1, c1, M, ok, rfl, ⟨hM, hok⟩, hown, hb1⟩
  rw [hW.out] at hM
  subst hM
  replace hok := Lib.hid hok
  have Hown := Lib.hid hown
  have hsp := hb1.size
  go_wp2_with fail
  refine (hm1.out _ ((hL.below hb1).more hb1.size)).mono ?_
  rintro e w2 ⟨r1, rfl, rfl, hb2⟩
  have Hown2 := Lib.hid (Hown.out.below hb2)
  replace hb2 := hb1.trans (hb2.mono hb1.size)
  clear hb1 hown
  go_wp2_with fail
  refine (hm2.out _ _ _ Hown2.out.lns).mono ?_
  rintro e w3 ⟨r2, rfl, rfl, hb3⟩
  replace hb3 := hb2.trans (hb3.mono hb2.size)
  go_wp2_with fail
  go_ret
  exact ⟨rfl, hb3⟩
set_option maxRecDepth 100000 in
theorem iLeft (n : Int) (A : Option Addr) (c : Nat) (L : List Ln) (p q : Int) (h2 : twoOk n L p q = true) (hcap : L.length ≤ c) (hcm : c ≤ maxLen) (w : World) (hL : Lns w w.heap.size A L) :
    Calls Try.prog 69 #[.int .i64 n, .slice A L.length c, .int .i64 p, .int .i64 q] w (Sl1Post (fun xs => xs = leftV n L p q) w) := by
  obtain ⟨nn, pp, qq, rfl, rfl, rfl, n2, n6, hp, hq, hpq, hin, hL10⟩ := two_nat h2
  have hM := Lib.hid (fun k A c w hL => iMost nn pp qq A c (L.eraseIdx k) n6 hp hq hpq (fun l hl => hin l (List.mem_of_mem_eraseIdx hl)) (by have := List.length_eraseIdx_le L k; omega) w hL)
  have hV : Hid (∀ k, mostV nn (L.eraseIdx k) pp qq = (mostRun (L.eraseIdx k) nn pp qq).2) := fun k => mostV_nat (two_erase h2 k)
  have hWo := Lib.hid (fun k (hk : k < L.length) b off w hbB hc => iWithout b off c L k hk hL10 hcap hcm w hbB hc)
  have HT := Lib.hid (fun k x (h : (leftV nn L pp qq)[k]? = some x) => take_next h)
  have HG := Lib.hid (fun k (hk : k < L.length) => leftV_get (n := (nn : Int)) (p := pp) (q := qq) hk)
  have HLen := Lib.hid (leftV_len nn L pp qq)
  obtain ⟨X, hX⟩ : ∃ X, X = leftV nn L pp qq := ⟨_, rfl⟩
  rw [← hX] at HT HG HLen ⊢
  obtain ⟨m, hm⟩ : ∃ m, m = L.length := ⟨_, rfl⟩
  have Hm := Lib.hid hm
  rw [← hm] at hWo HG HLen hL10 hcap ⊢
  have hmk := fun w => mk_cap (m : Int) m rfl (by omega) w
  clear hm hX h2 hin
  go_enter Try.func69, Try.ntmps69
  go_wp2_with fail
  go_loopw [9, 10, 11, 12, 18] (fun v _ _ _ i wr => ∃ (k : Nat) (A' : Option Addr) (c' : Nat), k ≤ m ∧ i = .int .i64 k ∧ v = .slice A' k c' ∧ Own wr w.heap.size (.slice A' k c') (X.take k) ∧ Below w.heap.size w wr) (fun _ _ _ _ i _ => m - (intOf i).toNat)
  case atStart => exact ⟨0, _, _, by omega, rfl, rfl, Own.made0 _ _ _ (Nat.le_refl _) (by omega), (Below.refl _ _).alloc (Nat.le_refl _) _⟩
  case round =>
    obtain ⟨k, A', c', hk, rfl, rfl, hown, hbel⟩ := hrel
    by_cases hkm : k < m
    · obtain ⟨b, off, rfl, hbB, hc⟩ := (hL.below hbel) (by rw [← Hm.out]; omega)
      have hw1 := Lib.hid (hWo.out k hkm b off wr (Nat.lt_of_lt_of_le hbB hbel.size) hc)
      have hstep := HT.out k _ (HG.out k hkm)
      rw [hV.out k] at hstep
      have hlen : Hid ((X.take k).length = k) := by show _ = _; rw [List.length_take, HLen.out]; omega
      obtain ⟨R, hR⟩ : ∃ R, R = mostRun (L.eraseIdx k) nn pp qq := ⟨_, rfl⟩
      have hM2 := fun A c w hL => hM.out k A c w hL
      rw [← hR] at hstep hM2
      replace hstep := Lib.hid hstep
      replace hM2 := Lib.hid hM2
      clear hc hR
      go_wp2_with fail
      refine hw1.out.mono ?_
      rintro e w3 ⟨A3, c3, rfl, _, _, hh, hb3⟩
      have hown3 := hown.below hb3
      replace hb3 := hbel.trans (hb3.mono hbel.size)
      have Hh := Lib.hid hh
      clear hown hbel hh
      go_wp2_with fail
      refine (hM2.out _ _ _ Hh.out.lns).mono ?_
      rintro e w4 ⟨g, rfl, _, _, hb4⟩
      have hown4 := hown3.below hb4
      replace hb4 := hb3.trans (hb4.mono hb3.size)
      have hsz := hb4.size
      clear hown3 hb3
      obtain ⟨rr, f, hRr⟩ : ∃ (t : Nat) (f : List Int), R = (f, t) := ⟨R.2, R.1, rfl⟩
      subst hRr
      go_wp2_with (at_builtin; refine app1 _ rfl _ _ rfl w.heap.size _ _ rfl (Own.alloc hown4 (Obj.cells #[.int .i64 (rr : Int)] 3)) k hlen.out ⟨w4.heap.size, 0, none⟩ (rr : Int) rfl (alloc1_cell rfl) (by omega) (by simp; omega) ?_; intro A5 c5 w5 hown5 hgr5)
      rw [hstep.out] at hown5
      have hb5 : Below w.heap.size w w5 := Own.grownBelow (hown4.alloc _) hgr5 (hb4.alloc hsz _) (Nat.le_refl _) (by simp; omega)
      clear hgr5 hown4 hb4
      go_wp2_with fail
      go_roundw
      case rel => exact ⟨k + 1, A5, c5, by omega, by go_num, rfl, hown5, hb5⟩
      case measure => simp [intOf]; omega
    · obtain rfl : k = m := by omega
      have ht : X.take k = X := List.take_of_length_le (by rw [HLen.out]; exact Nat.le_refl _)
      rw [ht] at hown
      clear ht
      go_wp2_with fail
      go_ret
      exact Sl1Post.mk rfl hown hbel
end Go.Proofs.Ytkcfclkpbmeaiaa
