/- TrafficMost and TrafficLoad: reference and program walked. -/
import Derived.Test.YtkcfclkpbmeaiaaMost
import Derived.Test.YtkcfclkpbmeaiaaLoad3
namespace Go.Proofs.Ytkcfclkpbmeaiaa
set_option linter.unusedVariables false
set_option linter.unusedSimpArgs false
open Go.RowKit
def mostV (n : Int) (L : List Ln) (p q : Int) : Int := if twoOk n L p q = true then (((mostRun L n.toNat p.toNat q.toNat).2 : Nat) : Int) else -1
def loadV (n : Int) (L : List Ln) (p q : Int) : List Int := if twoOk n L p q = true then (mostRun L n.toNat p.toNat q.toNat).1 else []
def IntPost (R : Int → Prop) (w : World) (e : Ending) (w' : World) : Prop := ∃ r, e = .returned (.int .i64 r) ∧ R r ∧ Below w.heap.size w w'
theorem mostV_nat {n p q : Nat} {L : List Ln} (h : twoOk n L p q = true) : mostV n L p q = ((mostRun L n p q).2 : Nat) := by
  rw [mostV, if_pos h]; rfl
theorem loadV_nat {n p q : Nat} {L : List Ln} (h : twoOk n L p q = true) : loadV n L p q = (mostRun L n p q).1 := by
  rw [loadV, if_pos h]; rfl
theorem two_nat {n : Int} {L : List Ln} {p q : Int} (h : twoOk n L p q = true) : ∃ nn pp qq : Nat, n = nn ∧ p = pp ∧ q = qq ∧ 2 ≤ nn ∧ nn ≤ 6 ∧ pp < nn ∧ qq < nn ∧ pp ≠ qq ∧ netIn nn L ∧ L.length ≤ 10 := by
  obtain ⟨h2, hp0, hp1, hq0, hq1, hpq⟩ := twoOk_n h
  obtain ⟨n2, n6, hlen10, hin⟩ := netOk_n h2
  obtain ⟨nn, rfl⟩ := Int.eq_ofNat_of_zero_le (by omega : 0 ≤ n)
  obtain ⟨pp, rfl⟩ := Int.eq_ofNat_of_zero_le hp0
  obtain ⟨qq, rfl⟩ := Int.eq_ofNat_of_zero_le hq0
  rw [Int.toNat_natCast] at hin
  exact ⟨nn, pp, qq, rfl, rfl, rfl, by omega, by omega, by omega, by omega, by omega, hin, hlen10⟩
set_option maxRecDepth 100000 in
theorem sTrafficMost (n : Int) (A : Option Addr) (c : Nat) (L : List Ln) (p q : Int) (hL1 : L.length ≤ 1048576) (w : World) (hL : Lns w w.heap.size A L) :
    Calls Try.prog 40 #[.int .i64 n, .slice A L.length c, .int .i64 p, .int .i64 q] w (IntPost (fun r => r = mostV n L p q) w) := by
  have hT := sTwo n A c L p q hL1 w hL
  cases h1 : twoOk n L p q with
  | false =>
    rw [h1] at hT
    have HT := Lib.hid hT
    have HV : Hid (mostV n L p q = -1) := by show _ = _; rw [mostV, h1]; rfl
    have H1 := Lib.hid h1
    clear h1 hT
    go_enter Try.func40, Try.ntmps40
    go_wp2_with fail
    refine HT.out.mono ?_
    rintro e w1 ⟨rfl, hb⟩
    go_wp2_with fail
    go_ret
    exact ⟨_, rfl, HV.out.symm, hb⟩
  | true =>
    rw [h1] at hT
    have HT := Lib.hid hT
    have H1 := Lib.hid h1
    obtain ⟨nn, pp, qq, rfl, rfl, rfl, n2, n6, hp, hq, hpq, hin, hL10⟩ := two_nat h1
    have HV := Lib.hid (mostV_nat h1)
    have hrun := (most_ok hin hL10 hp hq hpq).run
    have HM := Lib.hid (fun W h => sLoad A c L nn pp qq n6 hp hq hpq hin hL10 W h)
    obtain ⟨M, hM⟩ : ∃ M, M = mostRun L nn pp qq := ⟨_, rfl⟩
    rw [← hM] at HV HM hrun
    have Hrun := Lib.hid hrun
    have Hl10 := Lib.hid hL10
    have Hin := Lib.hid hin
    clear h1 hT hM hrun hL10 hin
    go_enter Try.func40, Try.ntmps40
    go_wp2_with fail
    refine HT.out.mono ?_
    rintro e w1 ⟨rfl, hb⟩
    go_wp2_with fail
    refine (HM.out w1 ((hL.below hb).more hb.size)).mono ?_
    rintro e w2 ⟨g, rfl, hr, hg, hb2⟩
    have hb3 := hb.trans (hb2.mono hb.size)
    have ho := sOut A c L (some ⟨g, 0, none⟩) L.length M.1 nn Hin.out Hrun.out.caps Hrun.out.len Hl10.out pp w2 w2.heap.size ((hL.below hb3).more hb3.size) (hr.iv (Nat.zero_le _) hr.lt)
    rw [Hrun.out.len, Hrun.out.out] at ho
    have Ho := Lib.hid ho
    clear ho hb hb2
    go_wp2_with fail
    refine Ho.out.mono ?_
    rintro e w3 ⟨rfl, rfl⟩
    go_wp2_with fail
    go_ret
    exact ⟨_, rfl, HV.out.symm, hb3⟩
set_option maxRecDepth 100000 in
theorem iTrafficMost (n : Int) (A : Option Addr) (c : Nat) (L : List Ln) (p q : Int) (hL1 : L.length ≤ 1048576) (w : World) (hL : Lns w w.heap.size A L) :
    Calls Try.prog 22 #[.int .i64 n, .slice A L.length c, .int .i64 p, .int .i64 q] w (IntPost (fun r => r = mostV n L p q) w) := by
  have hT := iTwo n A c L p q hL1 w hL
  cases h1 : twoOk n L p q with
  | false =>
    rw [h1] at hT
    have HT := Lib.hid hT
    have HV : Hid (mostV n L p q = -1) := by show _ = _; rw [mostV, h1]; rfl
    have H1 := Lib.hid h1
    clear h1 hT
    go_enter Try.func22, Try.ntmps22
    go_wp2_with fail
    refine HT.out.mono ?_
    rintro e w1 ⟨rfl, hb⟩
    go_wp2_with fail
    go_ret
    exact ⟨_, rfl, HV.out.symm, hb⟩
  | true =>
    rw [h1] at hT
    have HT := Lib.hid hT
    have H1 := Lib.hid h1
    obtain ⟨nn, pp, qq, rfl, rfl, rfl, n2, n6, hp, hq, hpq, hin, hL10⟩ := two_nat h1
    have HV := Lib.hid (mostV_nat h1)
    have hrun := (most_ok hin hL10 hp hq hpq).run
    have HM := Lib.hid (fun W h => iMost nn pp qq A c L n6 hp hq hpq hin hL10 W h)
    obtain ⟨M, hM⟩ : ∃ M, M = mostRun L nn pp qq := ⟨_, rfl⟩
    rw [← hM] at HV HM hrun
    have Hrun := Lib.hid hrun
    have Hl10 := Lib.hid hL10
    have Hin := Lib.hid hin
    clear h1 hT hM hrun hL10 hin
    go_enter Try.func22, Try.ntmps22
    go_wp2_with fail
    refine HT.out.mono ?_
    rintro e w1 ⟨rfl, hb⟩
    go_wp2_with fail
    refine (HM.out w1 ((hL.below hb).more hb.size)).mono ?_
    rintro e w2 ⟨g, rfl, hr, hg, hb2⟩
    have hb3 := hb.trans (hb2.mono hb.size)
    clear hb hb2
    go_wp2_with fail
    go_ret
    exact ⟨_, rfl, HV.out.symm, hb3⟩
set_option maxRecDepth 100000 in
theorem sTrafficLoad (n : Int) (A : Option Addr) (c : Nat) (L : List Ln) (p q : Int) (hL1 : L.length ≤ 1048576) (w : World) (hL : Lns w w.heap.size A L) :
    Calls Try.prog 38 #[.int .i64 n, .slice A L.length c, .int .i64 p, .int .i64 q] w (SlPost (fun xs ok => xs = loadV n L p q ∧ ok = twoOk n L p q) w) := by
  have hT := sTwo n A c L p q hL1 w hL
  cases h1 : twoOk n L p q with
  | false =>
    rw [h1] at hT
    have HT := Lib.hid hT
    have HV : Hid (loadV n L p q = []) := by show _ = _; rw [loadV, h1]; rfl
    have H1 := Lib.hid h1
    clear h1 hT
    go_enter Try.func38, Try.ntmps38
    go_wp2_with fail
    refine HT.out.mono ?_
    rintro e w1 ⟨rfl, hb⟩
    go_wp2_with fail
    go_ret2
    exact SlPost.mk ⟨HV.out.symm, rfl⟩ (Own.lit0 _ _ hb.size) (hb.alloc hb.size _)
  | true =>
    rw [h1] at hT
    have HT := Lib.hid hT
    have H1 := Lib.hid h1
    obtain ⟨nn, pp, qq, rfl, rfl, rfl, n2, n6, hp, hq, hpq, hin, hL10⟩ := two_nat h1
    have HV := Lib.hid (loadV_nat h1)
    have hrun := (most_ok hin hL10 hp hq hpq).run
    have HM := Lib.hid (fun W h => sLoad A c L nn pp qq n6 hp hq hpq hin hL10 W h)
    obtain ⟨M, hM⟩ : ∃ M, M = mostRun L nn pp qq := ⟨_, rfl⟩
    rw [← hM] at HV HM hrun
    have Hrun := Lib.hid hrun
    have Hl10 := Lib.hid hL10
    have Hin := Lib.hid hin
    clear h1 hT hM hrun hL10 hin
    go_enter Try.func38, Try.ntmps38
    go_wp2_with fail
    refine HT.out.mono ?_
    rintro e w1 ⟨rfl, hb⟩
    go_wp2_with fail
    refine (HM.out w1 ((hL.below hb).more hb.size)).mono ?_
    rintro e w2 ⟨g, rfl, hr, hg, hb2⟩
    have hb3 := hb.trans (hb2.mono hb.size)
    clear hb2
    go_wp2_with fail
    go_ret2
    refine SlPost.mk (xs := M.1) ⟨HV.out.symm, rfl⟩ ?_ hb3
    rw [← Hrun.out.len]
    exact hr.own (Nat.le_trans hb.size hg) (by rw [Hrun.out.len]; unfold maxLen; have := Hl10.out; omega)
set_option maxRecDepth 100000 in
theorem iTrafficLoad (n : Int) (A : Option Addr) (c : Nat) (L : List Ln) (p q : Int) (hL1 : L.length ≤ 1048576) (w : World) (hL : Lns w w.heap.size A L) :
    Calls Try.prog 37 #[.int .i64 n, .slice A L.length c, .int .i64 p, .int .i64 q] w (SlPost (fun xs ok => xs = loadV n L p q ∧ ok = twoOk n L p q) w) := by
  have hT := iTwo n A c L p q hL1 w hL
  cases h1 : twoOk n L p q with
  | false =>
    rw [h1] at hT
    have HT := Lib.hid hT
    have HV : Hid (loadV n L p q = []) := by show _ = _; rw [loadV, h1]; rfl
    have H1 := Lib.hid h1
    clear h1 hT
    go_enter Try.func37, Try.ntmps37
    go_wp2_with fail
    refine HT.out.mono ?_
    rintro e w1 ⟨rfl, hb⟩
    go_wp2_with fail
    go_ret2
    exact SlPost.mk ⟨HV.out.symm, rfl⟩ (Own.nil _ _) hb
  | true =>
    rw [h1] at hT
    have HT := Lib.hid hT
    have H1 := Lib.hid h1
    obtain ⟨nn, pp, qq, rfl, rfl, rfl, n2, n6, hp, hq, hpq, hin, hL10⟩ := two_nat h1
    have HV := Lib.hid (loadV_nat h1)
    have hrun := (most_ok hin hL10 hp hq hpq).run
    have HM := Lib.hid (fun W h => iMost nn pp qq A c L n6 hp hq hpq hin hL10 W h)
    obtain ⟨M, hM⟩ : ∃ M, M = mostRun L nn pp qq := ⟨_, rfl⟩
    rw [← hM] at HV HM hrun
    have Hrun := Lib.hid hrun
    have Hl10 := Lib.hid hL10
    have Hin := Lib.hid hin
    clear h1 hT hM hrun hL10 hin
    go_enter Try.func37, Try.ntmps37
    go_wp2_with fail
    refine HT.out.mono ?_
    rintro e w1 ⟨rfl, hb⟩
    go_wp2_with fail
    refine (HM.out w1 ((hL.below hb).more hb.size)).mono ?_
    rintro e w2 ⟨g, rfl, hr, hg, hb2⟩
    have hb3 := hb.trans (hb2.mono hb.size)
    clear hb2
    go_wp2_with fail
    go_ret2
    refine SlPost.mk (xs := M.1) ⟨HV.out.symm, rfl⟩ ?_ hb3
    rw [← Hrun.out.len]
    exact hr.own (Nat.le_trans hb.size hg) (by rw [Hrun.out.len]; unfold maxLen; have := Hl10.out; omega)
theorem sTrafficLoad' (n : Int) (A : Option Addr) (c : Nat) (L : List Ln) (p q : Int) (hL1 : L.length ≤ 1048576) (w : World) (hL : Lns w w.heap.size A L) :
    Calls Try.prog 38 #[.int .i64 n, .slice A L.length c, .int .i64 p, .int .i64 q] w (SpPost (fun xs ok => xs = loadV n L p q ∧ ok = twoOk n L p q) w) :=
  (sTrafficLoad n A c L p q hL1 w hL).mono fun _ _ h => h.sp
theorem loadV_len {n : Int} {L : List Ln} {p q : Int} {xs : List Int} {ok : Bool} (h : xs = loadV n L p q ∧ ok = twoOk n L p q) : xs.length ≤ 1048576 := by
  obtain ⟨rfl, _⟩ := h
  cases h1 : twoOk n L p q with
  | false => rw [loadV, h1]; simp
  | true =>
    obtain ⟨nn, pp, qq, rfl, rfl, rfl, n2, n6, hp, hq, hpq, hin, hL10⟩ := two_nat h1
    rw [loadV_nat h1, (most_ok hin hL10 hp hq hpq).run.len]
    omega
theorem eq_uniq {α : Type} {v r s : α} (h : r = v) (k : s = v) : r = s := h.trans k.symm
theorem loadV_fn (n : Int) (L : List Ln) (p q : Int) : Fn1 (fun xs ok => xs = loadV n L p q ∧ ok = twoOk n L p q) := fun _ _ _ _ h k => ⟨h.1.trans k.1.symm, h.2.trans k.2.symm⟩
end Go.Proofs.Ytkcfclkpbmeaiaa
