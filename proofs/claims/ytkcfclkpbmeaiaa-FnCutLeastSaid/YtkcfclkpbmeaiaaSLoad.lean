/- The greatest load of the reference: l7Load, walked. -/
import Derived.Test.YtkcfclkpbmeaiaaSteps
import Derived.Deep.LoopGhost
namespace Go.Proofs.Ytkcfclkpbmeaiaa
set_option linter.unusedVariables false
set_option linter.unusedSimpArgs false
open Go.RowKit
theorem way_zero {L : List Ln} {f0 fa f : List Int} {n from_ to p : Nat} {lst : List Nat} (hF : Far L f0 n to (fa, lst)) (h : WayInv L f0 fa n from_ to 0 p f) : p = to := by
  by_cases e : p = to
  · exact e
  · exfalso
    have hpm : p ∈ lst := (hF.inv.mem p h.plt).1 (by show 0 ≤ fa.getD p 0; rw [h.dist]; omega)
    obtain ⟨y0, hy0, _, he0⟩ := hF.inv.tree p hpm e
    have := (hF.inv.mem y0 (hF.inv.lt y0 hy0)).2 hy0
    have hd := h.dist
    simp only at he0 this
    omega
theorem way_step {L : List Ln} {fa f : List Int} {n m p y k : Nat} (h1 : stepTo L f fa n p = some y) (h2 : nx L f p y = some k) : way L fa n (m + 1) p f = way L fa n m y (f.set k (f.getD k 0 + sg (L.getD k ln0) p)) := by
  simp only [way, h1, h2]
theorem run_stop {L : List Ln} {n p q m t : Nat} {f : List Int} (h : (far L f n q).getD p 0 < 0) : run L n p q m f t = (f, t) := by
  cases m with
  | zero => rfl
  | succ m => rw [run, if_pos h]
theorem run_go {L : List Ln} {n p q m t : Nat} {f : List Int} (h : ¬ (far L f n q).getD p 0 < 0) : run L n p q (m + 1) f t = run L n p q m (way L (far L f n q) n ((far L f n q).getD p 0).toNat p f) (t + 1) := by
  rw [run, if_neg h]
def IRow (m : Nat) (xs : List Int) (w : World) (e : Ending) (w' : World) : Prop := ∃ g, e = .returned (.slice (some ⟨g, 0, none⟩) m m) ∧ Row w' g 3 (ivs xs) ∧ w.heap.size ≤ g ∧ Below w.heap.size w w'
set_option maxRecDepth 100000 in
theorem sLoad (A : Option Addr) (c : Nat) (L : List Ln) (n p q : Nat) (hn6 : n ≤ 6) (hp : p < n) (hq : q < n) (hpq : p ≠ q) (hin : netIn n L) (hL1 : L.length ≤ 10) (w : World) (hL : Lns w w.heap.size A L) :
    Calls Try.prog 68 #[.int .i64 n, .slice A L.length c, .int .i64 p, .int .i64 q] w (IRow L.length (mostRun L n p q).1 w) := by
  have HS := Lib.hid (fun F cf (f : List Int) hlen w hL hF => sSteps A c L F cf f n q hn6 hq hin hlen hL1 w hL hF)
  have HFr := Lib.hid (fun F cf (f : List Int) hlen (p q : Int) w hi lo hi2 hL hF => sFree A c L F cf f n hin hlen hL1 p q w hi lo hi2 hL hF)
  obtain ⟨R, hR⟩ : ∃ R, R = mostRun L n p q := ⟨_, rfl⟩
  have H0 := Lib.hid (RunInv.zero hin p q)
  have HLE := Lib.hid (fun f t (h : RunInv L n p q f t) => h.le hin hp hpq)
  rw [← hR]
  obtain ⟨m, hm⟩ : ∃ m, m = L.length := ⟨_, rfl⟩
  have Hm := Lib.hid hm
  rw [← hm] at hL1 HS HFr H0 HLE ⊢
  have hR' : R = run L n p q 100 (List.replicate m 0) 0 := by rw [hR, hm]; rfl
  have HR := Lib.hid hR'
  clear hm hR hR'
  have hmk := fun w => mk_row (P := Try.prog) 24 3 (.int .i64 0) 8 Try.underlying24 intInfo rfl (m : Int) m rfl (by omega) (by omega) w
  have hrow0 : Hid (∀ w : World, Row (w.alloc (Obj.cells (madeCells #[.int .i64 0] m) 3)) w.heap.size 3 (ivs (List.replicate m 0))) := fun w => by
    refine Row.newS _ 3 _ rfl ?_
    rw [madeCells_toList', ivs_zero]
  have hr0 := hrow0.out w
  have hb0 : Below w.heap.size w (w.alloc (Obj.cells (madeCells #[.int .i64 0] m) 3)) := (Below.refl _ _).alloc (Nat.le_refl _) _
  have hs0 := HS.out (some ⟨w.heap.size, 0, none⟩) m (List.replicate m 0) (by simp) _ ((hL.below hb0).more hb0.size) (hr0.iv (Nat.zero_le _) hr0.lt)
  rw [List.length_replicate] at hs0
  replace hs0 := Lib.hid hs0
  go_enter Try.func68, Try.ntmps68
  go_wp2_with fail
  refine hs0.out.mono ?_
  rintro e w1 ⟨g, rfl, hrg, hg, hb1⟩
  have hr1 := hr0.below hb1 hr0.lt
  replace hb1 := hb0.trans (hb1.mono hb0.size)
  have hne : g ≠ w.heap.size := by simp at hg; omega
  clear hr0 hb0 hg hrow0 hmk
  go_wp2_with fail
  go_loopg [10] 100 (fun k s wr => ∃ (f : List Int) (t g2 : Nat), t + k = 100 ∧ s = .slice (some ⟨g2, 0, none⟩) n n ∧ Row wr w.heap.size 3 (ivs f) ∧ Row wr g2 3 (ivs (far L f n q)) ∧ g2 ≠ w.heap.size ∧ Hid (run L n p q k f t = R ∧ RunInv L n p q f t) ∧ Below w.heap.size w wr)
  case atStart => exact ⟨List.replicate m 0, 0, g, rfl, rfl, hr1, hrg, hne, ⟨HR.out.symm, H0.out⟩, hb1⟩
  case round =>
    clear hr1 hrg hne hb1
    obtain ⟨f, t, g2, htk, rfl, hr, hrg, hne, hst, hbel⟩ := hrel
    have ht90 := HLE.out f t hst.out.2
    obtain ⟨k, rfl⟩ : ∃ k, gk = k + 1 := ⟨gk - 1, by omega⟩
    obtain ⟨lst, hFar⟩ := far_ok (L := L) (f := f) hq
    have hflen := hst.out.2.len
    have hstop := fun h => run_stop (L := L) (n := n) (p := p) (q := q) (m := k + 1) (t := t) (f := f) h
    have hgo := fun h => run_go (L := L) (n := n) (p := p) (q := q) (m := k) (t := t) (f := f) h
    obtain ⟨fa, hfa⟩ : ∃ fa, fa = far L f n q := ⟨_, rfl⟩
    rw [← hfa] at hFar hrg hstop hgo
    have hlenfa : fa.length = n := hFar.inv.len
    have HFar := Lib.hid hFar
    have Hfa := Lib.hid hfa
    replace hstop := Lib.hid hstop
    replace hgo := Lib.hid hgo
    have Hflen := Lib.hid hflen
    have Hget : Hid (∀ i, i < n → fa[i]? = some (fa.getD i 0)) := fun i hi => getD_int (by rw [hlenfa]; exact hi)
    have HBd : Hid (∀ i, -1 ≤ fa.getD i 0 ∧ fa.getD i 0 ≤ 6) := fun i => ⟨hFar.inv.low i, by have := hFar.inv.bound i; simp only at this; omega⟩
    have cp := hrg.cellI (ivs_get (Hget.out p hp))
    have hvb := HBd.out p
    obtain ⟨v, hv⟩ : ∃ v, v = fa.getD p 0 := ⟨_, rfl⟩
    rw [← hv] at cp hvb
    obtain ⟨hvb1, hvb2⟩ := hvb
    replace hv := Lib.hid hv
    clear hFar hfa hlenfa hflen
    by_cases hneg : v < 0
    · go_wp2_with fail
      go_ret
      have h1 := hstop.out (by rw [← hv.out]; exact hneg)
      have h2 := hst.out.1
      rw [h1] at h2
      rw [← h2]
      exact ⟨w.heap.size, rfl, hr, Nat.le_refl _, hbel⟩
    · obtain ⟨d, rfl⟩ := Int.eq_ofNat_of_zero_le (by omega : 0 ≤ v)
      clear hneg cp
      have hrun := hgo.out (by rw [← hv.out]; omega)
      rw [hst.out.1] at hrun
      have hw0 := hst.out.2.start (q := q) hp hv.out.symm
      have HRun : Hid (R = run L n p q k (way L fa n d p f) (t + 1)) := by
        show _ = _
        rw [hrun, ← hv.out, Int.toNat_natCast]
      have hrun0 := hst.out.2
      have HEnd : Hid (RunInv L n p q (way L fa n d p f) (t + 1)) := hrun0.next hpq (way_end hin HFar.out hw0)
      have cp := hrg.cellI (ivs_get (Hget.out p hp))
      rw [← hv.out] at cp
      have HW0 := Lib.hid hw0
      have hlenf := hrun0.len
      clear hrun hw0 hrun0 hst
      go_wp2_with fail
      clear cp
      obtain ⟨wo, hwo⟩ : ∃ wo : World, wo = wr := ⟨_, rfl⟩
      rw [← hwo] at hr hrg hbel ⊢
      clear hwo
      obtain ⟨RW, hRW⟩ : ∃ RW, RW = way L fa n d p f := ⟨_, rfl⟩
      rw [← hRW] at HRun HEnd
      replace hRW := Lib.hid hRW
      go_loopg [11] d (fun j s wi => ∃ (a : Nat) (f' : List Int), s = .int .i64 a ∧ Row wi w.heap.size 3 (ivs f') ∧ Row wi g2 3 (ivs fa) ∧ Hid (way L fa n j a f' = RW ∧ WayInv L f fa n p q j a f') ∧ Below w.heap.size w wi)
      case atStart => exact ⟨p, f, rfl, hr, hrg, ⟨hRW.out.symm, HW0.out⟩, hbel⟩
      case round =>
        clear hr hrg hbel
        obtain ⟨a, f', rfl, hr, hrg, hst, hbel⟩ := hrel
        have hfl := hst.out.2.len
        rw [← Hm.out] at hfl
        cases hgk : gk with
        | zero =>
          subst hgk
          obtain rfl : a = q := way_zero HFar.out hst.out.2
          have hwz : f' = RW := hst.out.1
          subst hwz
          have hs := HS.out (some ⟨w.heap.size, 0, none⟩) m f' hfl wr ((hL.below hbel).more hbel.size) (hr.iv (Nat.zero_le _) hr.lt)
          rw [hfl] at hs
          replace hs := Lib.hid hs
          have hwne := hr.lt
          replace hfl := Lib.hid hfl
          go_wp2_with fail
          refine hs.out.mono ?_
          rintro e w4 ⟨g4, rfl, hrg4, hg4, hb4⟩
          have hr4 := hr.below hb4 hr.lt
          replace hb4 := hbel.trans (hb4.mono hbel.size)
          have hne4 : g4 ≠ w.heap.size := by omega
          clear hr hbel hrg hs
          go_wp2_with fail
          go_roundg k
          case measure => omega
          case rel => exact ⟨f', t + 1, g4, by omega, rfl, hr4, hrg4, hne4, ⟨HRun.out.symm, HEnd.out⟩, hb4⟩
        | succ j =>
          subst hgk
          obtain ⟨y, kk, l, h1, h2, h3, h4, h5, h6, h7, h8⟩ := way_next hin HFar.out hst.out.2
          have hwy := hst.out.1
          rw [way_step h1 h2] at hwy
          obtain ⟨hyn, hyd, hys, hyf⟩ := stepTo_spec h1
          have hda := hst.out.2.dist
          have han := hst.out.2.plt
          have hgl : L.getD kk ln0 = l := by rw [List.getD_eq_getElem?_getD, h3]; rfl
          rw [hgl] at hwy h8
          have hsgS : nxS L f' a y = sg l a := by rw [nxS_some h2, hgl]
          have hnI : nxI L f' a y = kk := nxI_some h2
          have Hyes : Hid (fa.getD y 0 = fa.getD a 0 - 1 ∧ nxI L f' a y = kk ∧ nxS L f' a y = sg l a) := ⟨hyd, hnI, hsgS⟩
          have Hno : Hid (∀ z : Nat, z < y → fa.getD z 0 ≠ fa.getD a 0 - 1 ∨ nxI L f' a z < 0) := fun z hz => (hyf z hz).imp id fun h => nxI_neg.2 h
          have HN := Lib.hid (And.intro hwy h8)
          have haq : ¬ (a : Int) = (q : Int) := by omega
          have t1 := bF haq
          have t2 := nT haq
          have hfr := fun z : Int => HFr.out (some ⟨w.heap.size, 0, none⟩) m f' hfl a z
          rw [hfl] at hfr
          replace hfr := Lib.hid hfr
          have hkm : kk < m := by rw [Hm.out]; exact h4
          have hsgb : -1 ≤ sg l a ∧ sg l a ≤ 1 := by unfold sg; split <;> omega
          obtain ⟨hsb1, hsb2⟩ := hsgb
          have Hcell : Hid (f'[kk]? = some (f'.getD kk 0)) := getD_int (by rw [hfl]; exact hkm)
          have hcc := hin l (List.mem_of_getElem? h3)
          have hc9 : l.c ≤ 9 := by omega
          have Hfl := Lib.hid hfl
          have Hda := Lib.hid hda
          clear h1 h2 h3 h4 h5 hwy hyd hys hyf hgl hsgS hnI h8 haq hfl hcc hda hst
          go_wp2_with fail
          refine (hfr.out 0 wr wr.heap.size 0 wr.heap.size ((hL.below hbel).more hbel.size) (hr.iv (Nat.zero_le _) hr.lt)).mono ?_
          rintro e w4 ⟨d4, rfl, rfl⟩
          go_wp2_with fail
          obtain ⟨wo3, hwo3⟩ : ∃ wo : World, wo = wr := ⟨_, rfl⟩
          rw [← hwo3] at hr hrg hbel ⊢
          clear hwo3
          go_loopw [12, 13, 14] (fun nx_ li si wi => ∃ (z d5 : Nat), z ≤ y ∧ nx_ = .int .i64 z ∧ li = .int .i64 (nxI L f' a z) ∧ si = .int .i64 (nxS L f' a z) ∧ wi = wo3.drewN d5) (fun nx_ _ _ _ => y - (intOf nx_).toNat)
          case atStart => exact ⟨0, d4, by omega, rfl, rfl, rfl, rfl⟩
          case round =>
            obtain ⟨z, d5, hz, rfl, rfl, rfl, rfl⟩ := hrel
            have ca := hrg.cellI (ivs_get (Hget.out a han))
            have cz := hrg.cellI (ivs_get (Hget.out z (by omega)))
            have hab := HBd.out a
            have hzb := HBd.out z
            have hno := Hno.out z
            have hzn : z < n := by omega
            obtain ⟨va, hva⟩ : ∃ va, va = fa.getD a 0 := ⟨_, rfl⟩
            obtain ⟨vz, hvz⟩ : ∃ vz, vz = fa.getD z 0 := ⟨_, rfl⟩
            obtain ⟨li, hli⟩ : ∃ li, li = nxI L f' a z := ⟨_, rfl⟩
            obtain ⟨si, hsi⟩ : ∃ si, si = nxS L f' a z := ⟨_, rfl⟩
            rw [← hva] at ca hab hno
            rw [← hvz] at cz hzb hno
            rw [← hli] at hno ⊢
            rw [← hsi]
            obtain ⟨hab1, hab2⟩ := hab
            obtain ⟨hzb1, hzb2⟩ := hzb
            have w1 : IntKind.i64.wrap (va - 1) = va - 1 := IntWalk.i64_in _ (by omega)
            replace hva := Lib.hid hva
            replace hvz := Lib.hid hvz
            replace hli := Lib.hid hli
            replace hsi := Lib.hid hsi
            by_cases hzy : z < y
            · have hno' := hno hzy
              clear hno
              by_cases hl0 : li < 0
              · have g1 : decide (li < 0) = true := decide_eq_true hl0
                clear hno'
                go_wp2_with fail
                go_quiet (fail)
                go_wp2_with fail
                refine (hfr.out ((z : Int) + 1) _ w.heap.size 0 wo3.heap.size (hL.below (below_drewN hbel _)) ((hr.drewN _).iv (Nat.zero_le _) hr.lt)).mono ?_
                rintro e w5 ⟨d6, rfl, rfl⟩
                go_wp2_with fail
                go_roundw
                case rel => exact ⟨z + 1, _, by omega, by go_num, rfl, rfl, by first | rfl | exact World.drewN_drewN _ _ _ | trivial⟩
                case measure => simp [intOf]; omega
              · have g1 : decide (li < 0) = false := decide_eq_false hl0
                have g2' : (vz != va - 1) = true := nT (by rcases hno' with h | h <;> omega)
                have g3 : (vz == va - 1) = false := bF (by rcases hno' with h | h <;> omega)
                clear hno' hl0
                go_wp2_with fail
                go_quiet (fail)
                go_wp2_with fail
                refine (hfr.out ((z : Int) + 1) _ w.heap.size 0 wo3.heap.size (hL.below (below_drewN hbel _)) ((hr.drewN _).iv (Nat.zero_le _) hr.lt)).mono ?_
                rintro e w5 ⟨d6, rfl, rfl⟩
                go_wp2_with fail
                go_roundw
                case rel => exact ⟨z + 1, _, by omega, by go_num, rfl, rfl, by first | rfl | exact World.drewN_drewN _ _ _ | trivial⟩
                case measure => simp [intOf]; omega
            · obtain rfl : z = y := by omega
              clear hno
              have hy := Hyes.out
              rw [← hva.out, ← hvz.out, ← hli.out, ← hsi.out] at hy
              obtain ⟨hy1, hy2, hy3⟩ := hy
              have g1 : decide (li < 0) = false := decide_eq_false (by omega)
              have g2' : (vz != va - 1) = false := nF hy1
              have g3 : (vz == va - 1) = true := bT hy1
              subst hy2
              have hs1 : -1 ≤ si := by rw [hy3]; exact hsb1
              have hs2 : si ≤ 1 := by rw [hy3]; exact hsb2
              have Hsi := Lib.hid hy3
              obtain ⟨xk, hxk⟩ : ∃ x, x = f'.getD kk 0 := ⟨_, rfl⟩
              have hck := Hcell.out
              have hN := HN.out
              rw [← hxk] at h6 h7 hck hN
              rw [← hy3] at h6 h7 hN
              have ck := hr.cellI (ivs_get hck)
              have fk := hr.frozen kk
              have HN' := Lib.hid hN
              have hk0 : (0 : Int) ≤ kk := by omega
              clear hy1 hy3 hck hxk hN
              go_wp2_with fail
              go_quiet (fail)
              go_wp2_with fail
              go_roundg j
              case measure => omega
              case rel => exact ⟨z, f'.set kk (xk + si), rfl, ((hr.drewN _).set kk (.int .i64 (xk + si))).eq (ivs_set f' kk (xk + si)), (hrg.drewN _).far (by simpa using hne) _, ⟨HN'.out.1, HN'.out.2⟩, (below_drewN hbel _).setCell (by simp) _⟩
end Go.Proofs.Ytkcfclkpbmeaiaa
