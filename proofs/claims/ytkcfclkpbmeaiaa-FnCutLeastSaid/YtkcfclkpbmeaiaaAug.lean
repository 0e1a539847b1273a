/- One more way carried: the program's add, walked. -/
import Derived.Test.YtkcfclkpbmeaiaaFar2
import Derived.Test.YtkcfclkpbmeaiaaSLoad
namespace Go.Proofs.Ytkcfclkpbmeaiaa
set_option linter.unusedVariables false
set_option linter.unusedSimpArgs false
open Go.RowKit Go.Maps
theorem upd1 (w : World) {ops : Array Oper} {rest : List Oper} {o : Oper} {a : Act} {Q : Exit → Act → World → Prop} (hg : o.guard = none) (m x v : Operand) (hop : o.op = Op.mapUpdate 79 m x v)
    (B c k : Nat) (f : List Int) (y : Int) (hm : a.eval m = .map (some B)) (hu : Used w B f c) (hc : c ≤ 1000) (hx : a.eval x = .int .i64 (k : Int)) (hk : k < f.length) (hk2 : k ≤ 1000) (hv : a.eval v = .int .i64 y) (hy1 : -9 ≤ y) (hy2 : y ≤ 9)
    (hK : ∀ w', Used w' B (f.set k y) (c + 1) → w.grownBy w' (some B) → wpList Try.prog ops Q rest (a.put o.dst undef) w') : wpList Try.prog ops Q (o :: rest) a w := by
  obtain ⟨D, n, hn, ho, hr⟩ := hu
  have hkey : keyOf Try.prog 3 (.int .i64 (k : Int)) = some (.int .i64 (k : Int)) := keyK (by omega)
  refine wpList_mapUpdate_own w hg m x v 79 hop 3 3 keyLaw Try.underlying79 (plainElem Try.prog 3) B n D hm ho (by unfold maxLen; omega) _ _ (.int .i64 (k : Int)) hx hv hkey (.lit (.int .i64 y)) [] (plainElem_int Try.underlying3 (WalkArith.wf_i64 (by omega))) ?_
  intro w' h1 h2
  refine hK w' ⟨_, n + 1, by omega, h1, fun j z hz => ?_⟩ h2
  have hD : IsMap D := by
    obtain ⟨es, clock, hb, F, hs, hD⟩ := ho
    exact ⟨_, hD⟩
  by_cases e : j = k
  · subst e
    rw [List.getElem?_set_self hk] at hz
    injection hz with hz
    subst hz
    exact atKey_put_same hD (keyLaw.key hkey) _ _
  · rw [List.getElem?_set_ne (fun h => e h.symm)] at hz
    rw [atKey_put_other (by intro h; injection h with _ h; omega)]
    exact hr j z hz
theorem below_grown {w w' : World} {B hi : Nat} (h : w.grownBy w' (some B)) (h1 : hi ≤ B) (h2 : hi ≤ w.heap.size) : Below hi w w' :=
  ⟨h.os, h.tape, h.output, h.size, fun k hk => h.block k (by omega) (fun e => by injection e with e; omega)⟩
theorem grown_below {w w' : World} {row : Option Nat} (h : Below w.heap.size w w') : w.grownBy w' row := ⟨h.os, h.tape, h.output, h.size, fun k hk _ => h.block k hk⟩
theorem Car.grown {w w' : World} {C B n m cap c c' : Nat} {A : Option Addr} {f f' : List Int} (h : Car w C B n A m cap f c) (hg : w.grownBy w' (some B)) (hu : Used w' B f' c') : Car w' C B n A m cap f' c' := by
  have hb : w'.heap[C]? = w.heap[C]? := hg.block C h.lt (fun e => by injection e with e; exact h.ne e.symm)
  exact ⟨(World.cell?_of_block (a := ⟨C, 0, none⟩) hb).trans h.c0, (World.cell?_of_block (a := ⟨C, 1, none⟩) hb).trans h.c1, (World.cell?_of_block (a := ⟨C, 2, none⟩) hb).trans h.c2, hu, h.ne, Nat.lt_of_lt_of_le h.lt hg.size⟩
def AddPost (C B n : Nat) (A : Option Addr) (m cap c : Nat) (v : Int) (F : List Int) (w : World) (e : Ending) (w' : World) : Prop :=
  (v < 0 ∧ e = .returned (.bool false) ∧ Below w.heap.size w w') ∨ (¬ v < 0 ∧ e = .returned (.bool true) ∧ ∃ c', c' ≤ c + 6 ∧ Car w' C B n A m cap F c' ∧ w.grownBy w' (some B))
set_option maxRecDepth 100000 in
theorem iAdd (C B n p q : Nat) (A : Option Addr) (cap : Nat) (L : List Ln) (f : List Int) (t c : Nat) (hn6 : n ≤ 6) (hp : p < n) (hq : q < n) (hpq : p ≠ q) (hin : netIn n L) (hL1 : L.length ≤ 10) (hrun : RunInv L n p q f t) (hc9 : c ≤ 800) (w : World) (hi : Nat) (hhi : hi ≤ w.heap.size) (hhB : hi ≤ B) (hL : Lns w hi A L) (hcar : Car w C B n A L.length cap f c) :
    Calls Try.prog 75 #[.pointer (some ⟨C, 0, none⟩), .int .i64 p, .int .i64 q] w (AddPost C B n A L.length cap c ((far L f n q).getD p 0) (way L (far L f n q) n ((far L f n q).getD p 0).toNat p f) w) := by
  have HNx := Lib.hid (fun (f : List Int) (c : Nat) hlen hcaps (p q : Int) w hi hhi hL hcar => iNext C B n A cap L f c n hin hlen hcaps hL1 p q w hi hhi hL hcar)
  have hfar := iFar C B n q A cap L f c (by omega) hn6 hq hin hrun.len hrun.caps hL1 w hi hhi hL hcar
  obtain ⟨m, hm⟩ : ∃ m, m = L.length := ⟨_, rfl⟩
  have Hm := Lib.hid hm
  have HCar := Lib.hid hcar
  have hBlt := hcar.used.lt
  have hClt := hcar.lt
  have hCB := hcar.ne
  obtain ⟨lst, hFar⟩ := far_ok (L := L) (f := f) hq
  obtain ⟨fa, hfa⟩ : ∃ fa, fa = far L f n q := ⟨_, rfl⟩
  rw [← hfa] at hFar hfar ⊢
  have hlenfa : fa.length = n := hFar.inv.len
  have HFar := Lib.hid hFar
  have Hget : Hid (∀ i, i < n → fa[i]? = some (fa.getD i 0)) := fun i hi => getD_int (by rw [hlenfa]; exact hi)
  have HBd : Hid (∀ i, -1 ≤ fa.getD i 0 ∧ fa.getD i 0 ≤ 6) := fun i => ⟨hFar.inv.low i, by have := hFar.inv.bound i; simp only at this; omega⟩
  have hw0 := fun (d : Nat) (hd : fa.getD p 0 = (d : Int)) => hrun.start (q := q) hp (fa := fa) hd
  obtain ⟨v, hv⟩ : ∃ v, v = fa.getD p 0 := ⟨_, rfl⟩
  have hvb := HBd.out p
  have hgp := Hget.out p hp
  rw [← hv] at hvb hw0 hgp ⊢
  obtain ⟨hvb1, hvb2⟩ := hvb
  have Hv := Lib.hid hv
  have Hhl := Lib.hid (fun (W : World) (hg : w.grownBy W (some B)) => (hL.below (below_grown hg hhB hhi) : Lns W hi A L))
  rw [← hm] at hL1 hcar HCar ⊢
  replace hfar := Lib.hid hfar
  clear hm hcar hFar hfa hlenfa hv
  go_enter Try.func75, Try.ntmps75
  go_wp2_with fail
  refine hfar.out.mono ?_
  rintro e w1 ⟨g, rfl, hrg, hg, hb1⟩
  have hg1 : w.grownBy w1 (some B) := grown_below hb1
  have hcar1 := HCar.out.all hb1
  have hgB : g ≠ B := by omega
  have cp := hrg.cellI (ivs_get hgp)
  clear hfar
  by_cases hneg : v < 0
  · go_wp2_with fail
    go_ret
    exact .inl ⟨hneg, rfl, hb1⟩
  · obtain ⟨d, rfl⟩ := Int.eq_ofNat_of_zero_le (by omega : 0 ≤ v)
    clear hneg
    have HW0 := Lib.hid (hw0 d rfl)
    have hdn : ¬ (d : Int) < 0 := by omega
    obtain ⟨RW, hRW⟩ : ∃ RW, RW = way L fa n d p f := ⟨_, rfl⟩
    replace hRW := Lib.hid hRW
    clear hw0 hrun
    go_wp2_with fail
    clear cp
    have hd6 : d ≤ 6 := by omega
    go_loopg [8] d (fun j s wi => ∃ (a c' : Nat) (f' : List Int), s = .int .i64 a ∧ c' + j ≤ c + d ∧ Car wi C B n A m cap f' c' ∧ Row wi g 3 (ivs fa) ∧ Hid (way L fa n j a f' = RW ∧ WayInv L f fa n p q j a f') ∧ w.grownBy wi (some B) ∧ g < wi.heap.size)
    case atStart => exact ⟨p, c, f, rfl, by omega, hcar1, hrg, ⟨hRW.out.symm, HW0.out⟩, hg1, hrg.lt⟩
    case round =>
      clear hrg hcar1 hg1 hb1
      obtain ⟨a, c', f', rfl, hcc, hcar, hrg, hst, hgr, hgl⟩ := hrel
      have hfl := hst.out.2.len
      cases hgk : gk with
      | zero =>
        subst hgk
        obtain rfl : a = q := way_zero HFar.out hst.out.2
        have hwz : f' = RW := hst.out.1
        subst hwz
        go_wp2_with fail
        go_ret
        exact .inr ⟨by omega, rfl, c', by omega, by rw [Int.toNat_natCast, ← hRW.out]; exact hcar, hgr⟩
      | succ j =>
        subst hgk
        obtain ⟨y, kk, l, h1, h2, h3, h4, h5, h6, h7, h8⟩ := way_next hin HFar.out hst.out.2
        have hwy := hst.out.1
        rw [way_step h1 h2] at hwy
        obtain ⟨hyn, hyd, hys, hyf⟩ := stepTo_spec h1
        have hcapsf := hst.out.2.caps
        have han := hst.out.2.plt
        have hgl2 : L.getD kk ln0 = l := by rw [List.getD_eq_getElem?_getD, h3]; rfl
        rw [hgl2] at hwy h8
        have hnI : nxI L f' a y = kk := nxI_some h2
        have Hyes : Hid (fa.getD y 0 = fa.getD a 0 - 1 ∧ nxI L f' a y = kk) := ⟨hyd, hnI⟩
        have Hno : Hid (∀ z : Nat, z < y → fa.getD z 0 ≠ fa.getD a 0 - 1 ∨ nxI L f' a z < 0) := fun z hz => (hyf z hz).imp id fun h => nxI_neg.2 h
        have HN := Lib.hid (And.intro hwy h8)
        have haq : ¬ (a : Int) = (q : Int) := by omega
        have t1 := bF haq
        have t2 := nT haq
        have hkm : kk < m := by rw [Hm.out]; exact h4
        have Hcell : Hid (f'[kk]? = some (f'.getD kk 0)) := getD_int (by rw [hfl]; exact h4)
        have Hsg : Hid (sg l a = if l.a = a then 1 else -1) := rfl
        have hcc := hin l (List.mem_of_getElem? h3)
        have hc9 : l.c ≤ 9 := by omega
        have H3 := Lib.hid h3
        have H67 := Lib.hid (And.intro h6 h7)
        have hnx := fun (z : Int) (W : World) (hb : Below wr.heap.size wr W) => HNx.out f' c' hfl hcapsf a z W hi (Nat.le_trans hhi (Nat.le_trans hgr.size hb.size)) ((Hhl.out wr hgr).below (hb.mono (Nat.le_trans hhi hgr.size))) (by rw [← Hm.out]; exact hcar.all hb)
        replace hnx := Lib.hid hnx
        have cn := hcar.c0
        have hCl := hcar.lt
        have Hfl := Lib.hid hfl
        clear h1 h2 h3 h4 h5 h6 h7 hwy hyd hys hyf hgl2 hnI h8 haq hfl hcapsf hst
        go_wp2_with fail
        clear cn
        obtain ⟨wo, hwo⟩ : ∃ wo : World, wo = wr := ⟨_, rfl⟩
        rw [← hwo] at hcar hrg hgr hgl hnx hCl ⊢
        clear hwo
        go_loopw [8, 9, 10, 27] (fun s8 _ _ i wi => ∃ z : Nat, z ≤ y ∧ s8 = .int .i64 a ∧ i = .int .i64 z ∧ Below wo.heap.size wo wi) (fun _ _ _ i _ => y - (intOf i).toNat)
        case atStart => exact ⟨0, by omega, rfl, rfl, Below.refl _ _⟩
        case round =>
          obtain ⟨z, hz, rfl, rfl, hb⟩ := hrel
          have hrg' := hrg.below hb hgl
          have ca := hrg'.cellI (ivs_get (Hget.out a han))
          have cz := hrg'.cellI (ivs_get (Hget.out z (by omega)))
          have hab := HBd.out a
          have hzb := HBd.out z
          have hno := Hno.out z
          have hzn : z < n := by omega
          have hnz := fun dd => hnx.out (z : Int) _ (below_drewN hb dd)
          obtain ⟨va, hva⟩ : ∃ va, va = fa.getD a 0 := ⟨_, rfl⟩
          obtain ⟨vz, hvz⟩ : ∃ vz, vz = fa.getD z 0 := ⟨_, rfl⟩
          obtain ⟨li, hli⟩ : ∃ li, li = nxI L f' a z := ⟨_, rfl⟩
          rw [← hva] at ca hab hno
          rw [← hvz] at cz hzb hno
          rw [← hli] at hno hnz
          obtain ⟨hab1, hab2⟩ := hab
          obtain ⟨hzb1, hzb2⟩ := hzb
          have w1 : IntKind.i64.wrap (va - 1) = va - 1 := IntWalk.i64_in _ (by omega)
          replace hva := Lib.hid hva
          replace hvz := Lib.hid hvz
          replace hli := Lib.hid hli
          replace hnz := Lib.hid hnz
          by_cases hzy : z < y
          · have hno' := hno hzy
            clear hno
            by_cases hd1 : vz = va - 1
            · have hl0 : li < 0 := by rcases hno' with h | h <;> omega
              have g2' : (vz != va - 1) = false := nF hd1
              have g3 : (vz == va - 1) = true := bT hd1
              clear hno' hd1
              go_wp2_with fail
              go_quiet (fail)
              go_wp2_with fail
              refine (hnz.out _).mono ?_
              rintro e w5 ⟨rfl, hb5⟩
              go_wp2_with fail
              go_roundw
              case rel => exact ⟨z + 1, by omega, rfl, by go_num, (below_drewN hb _).trans (hb5.mono hb.size)⟩
              case measure => simp [intOf]; omega
            · have g2' : (vz != va - 1) = true := nT hd1
              have g3 : (vz == va - 1) = false := bF hd1
              clear hno' hd1
              go_wp2_with fail
              go_quiet (fail)
              go_wp2_with fail
              go_roundw
              case rel => exact ⟨z + 1, by omega, rfl, by go_num, below_drewN hb _⟩
              case measure => simp [intOf]; omega
          · obtain rfl : z = y := by omega
            clear hno
            have hy := Hyes.out
            rw [← hva.out, ← hvz.out, ← hli.out] at hy
            obtain ⟨hy1, hy2⟩ := hy
            have g2' : (vz != va - 1) = false := nF hy1
            have g3 : (vz == va - 1) = true := bT hy1
            subst hy2
            obtain ⟨xk, hxk⟩ : ∃ x, x = f'.getD kk 0 := ⟨_, rfl⟩
            have hck := Hcell.out
            have hN := HN.out
            have h67 := H67.out
            rw [← hxk] at h67 hck hN
            have HN' := Lib.hid hN
            clear hy1 hxk hN
            go_wp2_with fail
            go_quiet (fail)
            go_wp2_with fail
            refine (hnz.out _).mono ?_
            rintro e w5 ⟨rfl, hb5⟩
            have hb6 : Below wo.heap.size wo w5 := (below_drewN hb _).trans (hb5.mono hb.size)
            have hcar6 := hcar.all hb6
            have hLL : Lns w5 hi A L := (Hhl.out wo hgr).below (hb6.mono (Nat.le_trans hhi hgr.size))
            obtain ⟨b, off, rfl, hbb, hc⟩ := hLL (by rw [← Hm.out]; omega)
            obtain ⟨x1, x2, x3⟩ := hc kk l H3.out
            have y0 := hcar6.c0
            have y1 := hcar6.c1
            have y2 := hcar6.c2
            have hlook := fun z (h : f'[kk]? = some z) => hcar6.used.look h (by omega)
            replace hlook := hlook _ hck
            have hCl6 := hcar6.lt
            have hbx : b < w5.heap.size := Nat.lt_of_lt_of_le hbb (Nat.le_trans (Nat.le_trans hhi hgr.size) hb6.size)
            have hsg := Hsg.out
            have Hcar6 := Lib.hid hcar6
            have hN := HN'.out
            have hkl : kk < f'.length := by rw [Hfl.out, ← Hm.out]; exact hkm
            have hrg6 : Row w5 g 3 (ivs fa) := hrg.below hb6 hgl
            have hg6 : w.grownBy w5 (some B) := grown_trans hgr (grown_below hb6)
            have Hc6 : Hid (w.heap.size ≤ w5.heap.size) := Nat.le_trans hgr.size hb6.size
            have Hgl6 : Hid (g < w5.heap.size) := Nat.lt_of_lt_of_le hgl hb6.size
            replace hg6 := Lib.hid hg6
            clear hc hcar hck hLL hrg' hb hb5 hnz hgr hb6
            by_cases hla : l.a = a
            · have u1 := bT hla
              rw [if_pos hla] at hsg
              rw [hsg] at h67 hN
              obtain ⟨b1, b2⟩ := h67
              rw [show xk + 1 = xk + 1 by omega] at b1 b2 hN
              replace hN := Lib.hid hN
              go_wp2_with (at_mapUpdate; go_loud (refine upd1 _ rfl _ _ _ rfl B c' kk f' (xk + 1) rfl Hcar6.out.used (by omega) rfl hkl (by omega) rfl (by omega) (by omega) ?_); intro w7 hu7 hg7)
              have hcar7 := Hcar6.out.grown hg7 hu7
              have hrg7 := hrg6.grown hg7 (fun h => by injection h with h; exact hgB h)
              have hg8 := grown_trans hg6.out hg7
              have hgl7 := Nat.lt_of_lt_of_le Hgl6.out hg7.size
              clear hg7 hu7
              go_wp2_with fail
              go_roundg j
              case measure => omega
              case rel => exact ⟨z, c' + 1, f'.set kk (xk + 1), rfl, by omega, hcar7, hrg7, hN, hg8, hgl7⟩
            · have u1 := bF hla
              rw [if_neg hla] at hsg
              rw [hsg] at h67 hN
              obtain ⟨b1, b2⟩ := h67
              rw [show xk + -1 = xk - 1 by omega] at b1 b2 hN
              replace hN := Lib.hid hN
              go_wp2_with (at_mapUpdate; go_loud (refine upd1 _ rfl _ _ _ rfl B c' kk f' (xk - 1) rfl Hcar6.out.used (by omega) rfl hkl (by omega) rfl (by omega) (by omega) ?_); intro w7 hu7 hg7)
              have hcar7 := Hcar6.out.grown hg7 hu7
              have hrg7 := hrg6.grown hg7 (fun h => by injection h with h; exact hgB h)
              have hg8 := grown_trans hg6.out hg7
              have hgl7 := Nat.lt_of_lt_of_le Hgl6.out hg7.size
              clear hg7 hu7
              go_wp2_with fail
              go_roundg j
              case measure => omega
              case rel => exact ⟨z, c' + 1, f'.set kk (xk - 1), rfl, by omega, hcar7, hrg7, hN, hg8, hgl7⟩
end Go.Proofs.Ytkcfclkpbmeaiaa
