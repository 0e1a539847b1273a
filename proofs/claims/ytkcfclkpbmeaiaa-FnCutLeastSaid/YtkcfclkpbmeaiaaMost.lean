/- The greatest load of the program: most, walked. -/
import Derived.Test.YtkcfclkpbmeaiaaAug
namespace Go.Proofs.Ytkcfclkpbmeaiaa
set_option linter.unusedVariables false
set_option linter.unusedSimpArgs false
open Go.RowKit Go.Maps
def MostPost (m : Nat) (f : List Int) (t : Nat) (w : World) (e : Ending) (w' : World) : Prop := ∃ g, e = .returned (.tuple #[.slice (some ⟨g, 0, none⟩) m m, .int .i64 t]) ∧ Row w' g 3 (ivs f) ∧ w.heap.size ≤ g ∧ Below w.heap.size w w'
set_option maxRecDepth 100000 in
theorem iMost (n p q : Nat) (A : Option Addr) (cap : Nat) (L : List Ln) (hn6 : n ≤ 6) (hp : p < n) (hq : q < n) (hpq : p ≠ q) (hin : netIn n L) (hL1 : L.length ≤ 10) (w : World) (hL : Lns w w.heap.size A L) :
    Calls Try.prog 63 #[.int .i64 n, .slice A L.length cap, .int .i64 p, .int .i64 q] w (MostPost L.length (mostRun L n p q).1 (mostRun L n p q).2 w) := by
  have HAdd := Lib.hid (fun (f : List Int) (t c B C : Nat) hrun hc9 W hhi hhB hL hcar => iAdd C B n p q A cap L f t c hn6 hp hq hpq hin hL1 hrun hc9 W w.heap.size hhi hhB hL hcar)
  have H0 := Lib.hid (RunInv.zero hin p q)
  have HLE := Lib.hid (fun f t (h : RunInv L n p q f t) => h.le hin hp hpq)
  have HNext := Lib.hid (fun f t (h : RunInv L n p q f t) hf => run_next h hin hp hq hpq hf)
  have hmm := @run_makeMap Try.prog
  obtain ⟨R, hR⟩ : ∃ R, R = mostRun L n p q := ⟨_, rfl⟩
  rw [← hR]
  replace hR := Lib.hid hR
  go_enter Try.func63, Try.ntmps63
  go_wp2_with fail
  have hL0 := hL
  obtain ⟨m, hm⟩ : ∃ m, m = L.length := ⟨_, rfl⟩
  have Hm := Lib.hid hm
  rw [← hm] at hL1 HAdd H0 HLE
  have HR : Hid (R = run L n p q 100 (List.replicate m 0) 0) := by show _ = _; rw [hR.out, hm]; rfl
  have hcar0 : Car ((w.alloc (Obj.map #[] 0)).alloc (Obj.cells #[.int .i64 n, .slice A L.length cap, .map (some w.heap.size)] 81)) (w.heap.size + 1) w.heap.size n A m cap (List.replicate m 0) 0 := by
    rw [← hm]
    have hu := (Used.make w m).kept (row := none) (grown_alloc (grown_refl _ _) (Obj.cells #[.int .i64 n, .slice A m cap, .map (some w.heap.size)] 81)) (by simp)
    have hr := Row.newS (w.alloc (Obj.map #[] 0)) 81 #[.int .i64 n, .slice A m cap, .map (some w.heap.size)] (g := w.heap.size + 1) (by simp) rfl
    exact ⟨hr.cell 0, hr.cell 1, hr.cell 2, hu, by omega, hr.lt⟩
  rw [← hm]
  rw [← hm] at hcar0
  have hb0 : Below w.heap.size w ((w.alloc (Obj.map #[] 0)).alloc (Obj.cells #[.int .i64 n, .slice A m cap, .map (some w.heap.size)] 81)) := ((Below.refl _ _).alloc (Nat.le_refl _) _).alloc (by simp) _
  clear hm hmm
  go_loopg [11] 100 (fun k s wr => ∃ (f : List Int) (t c : Nat), t + k = 100 ∧ s = .int .i64 t ∧ c ≤ 6 * t ∧ Car wr (w.heap.size + 1) w.heap.size n A m cap f c ∧ Hid (run L n p q k f t = R ∧ RunInv L n p q f t) ∧ Below w.heap.size w wr)
  case atStart => exact ⟨List.replicate m 0, 0, 0, rfl, rfl, by omega, hcar0, ⟨HR.out.symm, H0.out⟩, hb0⟩
  case round =>
    clear hcar0 hb0
    obtain ⟨f, t, c, htk, rfl, hct, hcar, hst, hbel⟩ := hrel
    have ht90 := HLE.out f t hst.out.2
    obtain ⟨k, rfl⟩ : ∃ k, gk = k + 1 := ⟨gk - 1, by omega⟩
    have hstop := fun h => run_stop (L := L) (n := n) (p := p) (q := q) (m := k + 1) (t := t) (f := f) h
    have hgo := fun h => run_go (L := L) (n := n) (p := p) (q := q) (m := k) (t := t) (f := f) h
    have hnext := HNext.out f t hst.out.2
    have hadd := HAdd.out f t c w.heap.size (w.heap.size + 1) hst.out.2 (by omega) wr hbel.size (Nat.le_refl _) (hL.below hbel) hcar
    have hflen := hst.out.2.len
    rw [← Hm.out] at hflen
    obtain ⟨v, hv⟩ : ∃ v, v = (far L f n q).getD p 0 := ⟨_, rfl⟩
    rw [← hv] at hstop hgo hnext hadd
    replace hstop := Lib.hid hstop
    replace hgo := Lib.hid hgo
    replace hnext := Lib.hid hnext
    replace hadd := Lib.hid hadd
    replace hv := Lib.hid hv
    have Hflen := Lib.hid hflen
    clear hflen
    go_wp2_with fail
    refine hadd.out.mono ?_
    rintro e w5 (⟨hneg, rfl, hb5⟩ | ⟨hneg, rfl, c', hc', hcar5, hg5⟩)
    · have hcar5 := hcar.all hb5
      have hb6 := hbel.trans (hb5.mono hbel.size)
      have hst1 := hst.out.1
      rw [hstop.out hneg] at hst1
      subst hst1
      have hmk := fun w => mk_row (P := Try.prog) 24 3 (.int .i64 0) 8 Try.underlying24 intInfo rfl (m : Int) m rfl (by omega) (by omega) w
      have hrow0 : Hid (∀ w : World, Row (w.alloc (Obj.cells (madeCells #[.int .i64 0] m) 3)) w.heap.size 3 (ivs (List.replicate m 0))) := fun w => by
        refine Row.newS _ 3 _ rfl ?_
        rw [madeCells_toList', ivs_zero]
      clear hcar hbel hb5 hneg hstop hgo hnext hst hadd
      go_wp2_with fail
      have hG := hrow0.out w5
      have hb7 : Below w.heap.size w (w5.alloc (Obj.cells (madeCells #[.int .i64 0] m) 3)) := hb6.alloc hb6.size _
      have hcar7 := hcar5.all ((Below.refl w5.heap.size w5).alloc (Nat.le_refl _) (Obj.cells (madeCells #[.int .i64 0] m) 3))
      have hB5 := hcar5.used.lt
      have hC5 := hcar5.lt
      clear hcar5 hmk hrow0
      go_loopw [13, 30] (fun _ i wi => ∃ (z : Nat) (M : List Int), z ≤ m ∧ i = .int .i64 z ∧ Hid (M.length = m ∧ ∀ j, j < z → M[j]? = f[j]?) ∧ Row wi w5.heap.size 3 (ivs M) ∧ Car wi (w.heap.size + 1) w.heap.size n A m cap f c ∧ Below w.heap.size w wi) (fun _ i _ => m - (intOf i).toNat)
      case atStart => exact ⟨0, List.replicate m 0, by omega, rfl, ⟨by simp, fun j hj => by omega⟩, hG, hcar7, hb7⟩
      case round =>
        clear hG hb7 hcar7
        obtain ⟨z, M, hz, rfl, hM, hr, hcar, hbel⟩ := hrel
        by_cases hzm : z < m
        · obtain ⟨x, hx⟩ : ∃ x, f[z]? = some x := ⟨f[z]'(by rw [Hflen.out]; exact hzm), List.getElem?_eq_getElem _⟩
          have hlook := hcar.used.look hx (by omega)
          have y2 := hcar.c2
          have hCl := hcar.lt
          have hMl := Lib.hid hM.out.1
          have f1 := hr.frozen z
          have e1 := hr.cellI (ivs_get (getD_int (f := M) (k := z) (by rw [hM.out.1]; exact hzm)))
          have HM' : Hid ((M.set z x).length = m ∧ ∀ j, j < z + 1 → (M.set z x)[j]? = f[j]?) := ⟨by rw [List.length_set]; exact hM.out.1, fun j hj => by
            rcases (by omega : j < z ∨ j = z) with h | rfl
            · rw [List.getElem?_set_ne (by omega)]; exact hM.out.2 j h
            · rw [List.getElem?_set_self (by rw [hM.out.1]; exact hzm), hx]⟩
          have hr' := (hr.set z (.int .i64 x)).eq (ivs_set M z x)
          clear hx
          have hne : w5.heap.size ≠ w.heap.size := by omega
          have hne2 : w5.heap.size ≠ w.heap.size + 1 := by omega
          go_wp2_with fail
          go_roundw
          case rel => exact ⟨z + 1, M.set z x, by omega, by go_num, HM', hr', hcar.below ((Below.refl w5.heap.size wr).setCell (Nat.le_refl _) _) hC5 hB5, hbel.setCell hb6.size _⟩
          case measure => simp [intOf]; omega
        · obtain rfl : z = m := by omega
          have hMf : M = f := by
            apply List.ext_getElem?
            intro j
            rcases Nat.lt_or_ge j z with h | h
            · exact hM.out.2 j h
            · rw [List.getElem?_eq_none (by rw [hM.out.1]; exact h), List.getElem?_eq_none (by rw [Hflen.out]; exact h)]
          subst hMf
          go_wp2_with fail
          go_ret2
          exact ⟨w5.heap.size, by rw [← Hm.out]; rfl, hr, hb6.size, hbel⟩
    · have hb6 : Below w.heap.size w w5 := hbel.trans (below_grown hg5 (Nat.le_refl _) hbel.size)
      have hn := hnext.out (by omega)
      have hst1 := hst.out.1
      rw [hgo.out (by omega)] at hst1
      have HN := Lib.hid (And.intro hst1 hn)
      clear hn hst1 hcar hbel hg5 hneg
      go_wp2_with fail
      go_roundg k
      case measure => omega
      case rel => exact ⟨_, t + 1, c', by omega, by go_num, by omega, hcar5, HN, hb6⟩
end Go.Proofs.Ytkcfclkpbmeaiaa
