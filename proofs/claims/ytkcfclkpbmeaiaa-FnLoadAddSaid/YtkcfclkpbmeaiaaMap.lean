/- The program's map from lines to channels. -/
import Derived.Test.YtkcfclkpbmeaiaaFree
import Derived.Maps.Own
import Derived.Maps.Views
import Derived.Maps.OwnOps
namespace Go.Proofs.Ytkcfclkpbmeaiaa
set_option linter.unusedVariables false
set_option linter.unusedSimpArgs false
open Go.RowKit Go.Maps
theorem keyLaw : Keyed Try.prog 3 := int_keyed Try.underlying3
theorem zeroI (w : World) : (zeroValue 3).run Try.prog w = .ok (.int .i64 0) w := by kernel_rfl
theorem keyK {k : Nat} (h : k ≤ 1000000) : keyOf Try.prog 3 (.int .i64 (k : Int)) = some (.int .i64 (k : Int)) := keyOf_int_mk Try.underlying3 (WalkArith.wf_i64 (by omega))
/-- Block B is a map of at most c entries that reads as f: a number that is not there reads as 0. -/
def Used (w : World) (B : Nat) (f : List Int) (c : Nat) : Prop := ∃ (D : DataW Unit) (n : Nat), n ≤ c ∧ w.ownsMap Try.prog 3 (plainElem Try.prog 3) B n D ∧ ∀ (k : Nat) (x : Int), f[k]? = some x → D.atKey (.int .i64 k) (.lit (.int .i64 0)) = .lit (.int .i64 x)
section
variable {w w' : World} {B c : Nat} {f : List Int}
theorem Used.lt (h : Used w B f c) : B < w.heap.size := by obtain ⟨D, n, _, ho, _⟩ := h; exact ho.lt
theorem Used.kept {row : Option Nat} (h : Used w B f c) (hg : w.grownBy w' row) (hne : some B ≠ row) : Used w' B f c := by
  obtain ⟨D, n, hn, ho, hr⟩ := h
  exact ⟨D, n, hn, ho.kept hg hne, hr⟩
theorem Used.below (h : Used w B f c) {C : Nat} (hb : Below C w w') (hC : B < C) : Used w' B f c := by
  obtain ⟨D, n, hn, ho, hr⟩ := h
  have ho' : w'.ownsMap Try.prog 3 (plainElem Try.prog 3) B n D := by
    obtain ⟨es, clock, h1, h2⟩ := ho
    exact ⟨es, clock, (hb.block B hC).trans h1, h2⟩
  exact ⟨D, n, hn, ho', hr⟩
theorem Used.mono (h : Used w B f c) {c' : Nat} (hc : c ≤ c') : Used w B f c' := by
  obtain ⟨D, n, hn, h2⟩ := h
  exact ⟨D, n, by omega, h2⟩
theorem Used.look (h : Used w B f c) {k : Nat} {x : Int} (hx : f[k]? = some x) (hk : k ≤ 1000000) : (Instr.lookup 79 (.map (some B)) (.int .i64 (k : Int)) false).run Try.prog w = .ok (.int .i64 x) w := by
  obtain ⟨D, n, _, ho, hr⟩ := h
  obtain ⟨c', hrun, hat, _⟩ := ho.lookup_int keyLaw Try.underlying79 Try.underlying3 (zeroI w) (keyK hk)
  have := hr k x hx
  rw [hat] at this
  injection this with this
  injection this with _ this
  rw [hrun, this]
theorem Used.make (w : World) (m : Nat) : Used (w.alloc (.map #[] 0)) w.heap.size (List.replicate m 0) 0 :=
  ⟨.map [], 0, Nat.le_refl _, World.ownsMap_made _ _ _ _, fun k x hx => by
    rw [List.getElem?_replicate] at hx
    split at hx
    · injection hx with hx; subst hx; rfl
    · cases hx⟩
end
/-- The carrier: its three cells, and its map. -/
structure Car (w : World) (C B : Nat) (n : Nat) (A : Option Addr) (m cap : Nat) (f : List Int) (c : Nat) : Prop where
  c0 : w.cell? ⟨C, 0, none⟩ = some (.int .i64 n)
  c1 : w.cell? ⟨C, 1, none⟩ = some (.slice A m cap)
  c2 : w.cell? ⟨C, 2, none⟩ = some (.map (some B))
  used : Used w B f c
  ne : B ≠ C
  lt : C < w.heap.size
section
variable {w w' : World} {C B n m cap c : Nat} {A : Option Addr} {f : List Int}
theorem Car.below (h : Car w C B n A m cap f c) {G : Nat} (hb : Below G w w') (hC : C < G) (hB : B < G) : Car w' C B n A m cap f c :=
  ⟨(hb.cell (p := ⟨C, 0, none⟩) hC).trans h.c0, (hb.cell (p := ⟨C, 1, none⟩) hC).trans h.c1, (hb.cell (p := ⟨C, 2, none⟩) hC).trans h.c2, h.used.below hb hB, h.ne, Nat.lt_of_lt_of_le h.lt hb.size⟩
theorem Car.all (h : Car w C B n A m cap f c) (hb : Below w.heap.size w w') : Car w' C B n A m cap f c := h.below hb h.lt h.used.lt
end
set_option maxRecDepth 100000 in
theorem iNext (C B n : Nat) (A : Option Addr) (cap : Nat) (L : List Ln) (f : List Int) (c : Nat) (nn : Nat) (hin : netIn nn L) (hlen : f.length = L.length) (hcaps : caps L f) (hL1 : L.length ≤ 10) (p q : Int) (w : World) (hi : Nat) (hhi : hi ≤ w.heap.size) (hL : Lns w hi A L) (hcar : Car w C B n A L.length cap f c) :
    Calls Try.prog 82 #[.pointer (some ⟨C, 0, none⟩), .int .i64 p, .int .i64 q] w fun e w' => e = .returned (.int .i64 (nxI L f p q)) ∧ Below w.heap.size w w' := by
  obtain ⟨m, hm⟩ : ∃ m, m = L.length := ⟨_, rfl⟩
  rw [← hm] at hL1 hlen hcar
  have Hm := Lib.hid hm
  have Hf := Lib.hid hlen
  have HCar := Lib.hid hcar
  have hc0 := hcar.c0
  have hc1 := hcar.c1
  have hc2 := hcar.c2
  have hClt := hcar.lt
  clear hm hlen hcar
  go_enter Try.func82, Try.ntmps82
  go_wp2_with fail
  go_loopw [14] (fun i wr => ∃ k : Nat, k ≤ m ∧ i = .int .i64 k ∧ Hid (∀ j, j < k → frAt L f p q j = false) ∧ Below w.heap.size w wr) (fun i _ => m - (intOf i).toNat)
  case atStart => exact ⟨0, by omega, rfl, fun j hj => by omega, Below.refl _ _⟩
  case round =>
    obtain ⟨k, hk, rfl, hno, hbel⟩ := hrel
    by_cases hlt : k < m
    · obtain ⟨b, off, rfl, hb, hc⟩ := hL (by rw [← Hm.out]; omega)
      obtain ⟨l, hl⟩ : ∃ l, L[k]? = some l := ⟨L[k]'(by rw [← Hm.out]; exact hlt), List.getElem?_eq_getElem _⟩
      obtain ⟨x, hx⟩ : ∃ x, f[k]? = some x := ⟨f[k]'(by rw [Hf.out]; exact hlt), List.getElem?_eq_getElem _⟩
      obtain ⟨c1, c2, c3⟩ := hc k l hl
      have hbw : b < w.heap.size := by omega
      have d1 := (hbel.cell (p := ⟨b, _, none⟩) hbw).trans c1
      have d2 := (hbel.cell (p := ⟨b, _, none⟩) hbw).trans c2
      have d3 := (hbel.cell (p := ⟨b, _, none⟩) hbw).trans c3
      have hcar := HCar.out.all hbel
      have e0 := hcar.c0
      have e2 := hcar.c2
      have hCl := hcar.lt
      have hlook : ∀ d, (Instr.lookup 79 (.map (some B)) (.int .i64 (k : Int)) false).run Try.prog ((wr.alloc (Obj.cells #[.int .i64 l.a, .int .i64 l.b, .int .i64 l.c] 36)).drewN d) = .ok (.int .i64 x) ((wr.alloc (Obj.cells #[.int .i64 l.a, .int .i64 l.b, .int .i64 l.c] 36)).drewN d) := fun d =>
        Used.look (hcar.used.below (below_drewN ((Below.refl wr.heap.size wr).alloc (Nat.le_refl _) _) d) hcar.used.lt : Used ((wr.alloc (Obj.cells #[.int .i64 l.a, .int .i64 l.b, .int .i64 l.c] 36)).drewN d) B f c) hx (by omega)
      have hfr : Hid (frAt L f p q k = fr l x p q) := frAt_get hl hx
      obtain ⟨_, _, _, _, hab, hc1, hc9⟩ := hin l (List.mem_of_getElem? hl)
      obtain ⟨hcp1, hcp2⟩ := caps_get hcaps hl hx
      have hx1 : -9 ≤ x := by omega
      have hx9 : x ≤ 9 := by omega
      have w1 : IntKind.i64.wrap (-x) = -x := IntWalk.i64_in _ (by omega)
      have hyes : fr l x p q = true → nx L f p q = some k := fun h => nx_mk (by rw [hfr.out]; exact h) (by rw [← Hm.out]; exact hlt) hno.out
      have hnext : fr l x p q = false → Hid (∀ j, j < k + 1 → frAt L f p q j = false) := fun h j hj => by
        rcases (by omega : j < k ∨ j = k) with h1 | rfl
        · exact hno.out j h1
        · rw [hfr.out]; exact h
      replace hyes := Lib.hid hyes
      replace hnext := Lib.hid hnext
      have Hab := Lib.hid hab
      have hbl : Below w.heap.size w (wr.alloc (Obj.cells #[.int .i64 l.a, .int .i64 l.b, .int .i64 l.c] 36)) := hbel.alloc hbel.size _
      have hHcar := Lib.hid hcar
      clear hc hl hx hab c1 c2 c3 hcar hc0 hc1 hc2 hcp1 hcp2
      by_cases e1 : l.a = p
      · have t1 := bT e1
        have e4 : ¬ l.b = p := fun h => Hab.out (e1.trans h.symm)
        have t4 := bF e4
        by_cases e2' : l.b = q
        · have t2 := bT e2'
          by_cases e3 : x < l.c
          · have t3 : decide (x < l.c) = true := decide_eq_true e3
            have hn := Lib.hid (hyes.out (by unfold fr; rw [t1, t2, t3]; rfl))
            clear e1 e2' e4
            go_wp2_with fail
            go_quiet (fail)
            go_wp2_with fail
            go_ret
            exact ⟨by rw [nxI_some hn.out]; rfl, below_drewN hbl _⟩
          · have t3 : decide (x < l.c) = false := decide_eq_false e3
            have hn := hnext.out (by unfold fr; rw [t1, t2, t3, t4]; rfl)
            clear e1 e2' e4 e3
            go_wp2_with fail
            go_quiet (fail)
            go_wp2_with fail
            go_roundw
            case rel => exact ⟨k + 1, by omega, by go_num, hn, below_drewN hbl _⟩
            case measure => simp [intOf]; omega
        · have t2 := bF e2'
          have hn := hnext.out (by unfold fr; rw [t1, t2, t4]; rfl)
          clear e1 e2' e4
          go_wp2_with fail
          go_quiet (fail)
          go_wp2_with fail
          go_roundw
          case rel => exact ⟨k + 1, by omega, by go_num, hn, below_drewN hbl _⟩
          case measure => simp [intOf]; omega
      · have t1 := bF e1
        by_cases e4 : l.b = p
        · have t4 := bT e4
          by_cases e5 : l.a = q
          · have t5 := bT e5
            by_cases e6 : -x < l.c
            · have t6 : decide (-x < l.c) = true := decide_eq_true e6
              have hn := Lib.hid (hyes.out (by unfold fr; rw [t1, t4, t5, decide_eq_true (by omega : -l.c < x)]; rfl))
              clear e1 e4 e5
              go_wp2_with fail
              go_quiet (fail)
              go_wp2_with fail
              go_ret
              exact ⟨by rw [nxI_some hn.out]; rfl, below_drewN hbl _⟩
            · have t6 : decide (-x < l.c) = false := decide_eq_false e6
              have hn := hnext.out (by unfold fr; rw [t1, t4, t5, decide_eq_false (by omega : ¬ -l.c < x)]; rfl)
              clear e1 e4 e5 e6
              go_wp2_with fail
              go_quiet (fail)
              go_wp2_with fail
              go_roundw
              case rel => exact ⟨k + 1, by omega, by go_num, hn, below_drewN hbl _⟩
              case measure => simp [intOf]; omega
          · have t5 := bF e5
            have hn := hnext.out (by unfold fr; rw [t1, t4, t5]; rfl)
            clear e1 e4 e5
            go_wp2_with fail
            go_quiet (fail)
            go_wp2_with fail
            go_roundw
            case rel => exact ⟨k + 1, by omega, by go_num, hn, below_drewN hbl _⟩
            case measure => simp [intOf]; omega
        · have t4 := bF e4
          have hn := hnext.out (by unfold fr; rw [t1, t4]; rfl)
          clear e1 e4
          go_wp2_with fail
          go_quiet (fail)
          go_wp2_with fail
          go_roundw
          case rel => exact ⟨k + 1, by omega, by go_num, hn, below_drewN hbl _⟩
          case measure => simp [intOf]; omega
    · obtain rfl : k = m := by omega
      have hn := Lib.hid (nx_no (L := L) (f := f) (p := p) (q := q) (fun i hi => hno.out i (by rw [Hm.out]; exact hi)))
      go_wp2_with fail
      go_ret
      exact ⟨by rw [nxI_none hn.out]; rfl, hbel⟩
end Go.Proofs.Ytkcfclkpbmeaiaa
