/- Free lines: the reference's l7Free, walked. -/
import Derived.Test.YtkcfclkpbmeaiaaLoad
import Derived.Test.YtkcfclkpbmeaiaaIm
namespace Go.Proofs.Ytkcfclkpbmeaiaa
set_option linter.unusedVariables false
set_option linter.unusedSimpArgs false
open Go.RowKit
def nxI (L : List Ln) (f : List Int) (p q : Int) : Int := match nx L f p q with
  | some k => (k : Int)
  | none => -1
def nxS (L : List Ln) (f : List Int) (p q : Int) : Int := match nx L f p q with
  | some k => sg (L.getD k ln0) p
  | none => 0
theorem nxI_some {L : List Ln} {f : List Int} {p q : Int} {k : Nat} (h : nx L f p q = some k) : nxI L f p q = k := by unfold nxI; rw [h]
theorem nxS_some {L : List Ln} {f : List Int} {p q : Int} {k : Nat} (h : nx L f p q = some k) : nxS L f p q = sg (L.getD k ln0) p := by unfold nxS; rw [h]
theorem nxI_none {L : List Ln} {f : List Int} {p q : Int} (h : nx L f p q = none) : nxI L f p q = -1 := by unfold nxI; rw [h]
theorem nxS_none {L : List Ln} {f : List Int} {p q : Int} (h : nx L f p q = none) : nxS L f p q = 0 := by unfold nxS; rw [h]
theorem nxI_bound {L : List Ln} {f : List Int} {p q : Int} : -1 ≤ nxI L f p q ∧ nxI L f p q < L.length ∨ L.length = 0 ∧ nxI L f p q = -1 := by
  unfold nxI
  cases h : nx L f p q with
  | none => simp only; omega
  | some k => have := (nx_spec h).1; simp only; omega
theorem nxI_neg {L : List Ln} {f : List Int} {p q : Int} : nxI L f p q < 0 ↔ (nx L f p q).isSome = false := by
  unfold nxI
  cases h : nx L f p q with
  | none => simp
  | some k => simp
theorem frAt_get {L : List Ln} {f : List Int} {p q : Int} {k : Nat} {l : Ln} {x : Int} (hl : L[k]? = some l) (hx : f[k]? = some x) : frAt L f p q k = fr l x p q := by
  unfold frAt
  rw [List.getD_eq_getElem?_getD, hl, List.getD_eq_getElem?_getD, hx]; rfl
def FreePost (L : List Ln) (f : List Int) (p q : Int) (w : World) (e : Ending) (w' : World) : Prop := ∃ d, e = .returned (.tuple #[.int .i64 (nxI L f p q), .int .i64 (nxS L f p q)]) ∧ w' = w.drewN d
set_option maxRecDepth 100000 in
theorem sFree (A : Option Addr) (c : Nat) (L : List Ln) (F : Option Addr) (cf : Nat) (f : List Int) (nn : Nat) (hin : netIn nn L) (hlen : f.length = L.length) (hL1 : L.length ≤ 10) (p q : Int) (w : World) (hi lo hi2 : Nat) (hL : Lns w hi A L) (hF : Iv w lo hi2 F f) :
    Calls Try.prog 79 #[.slice A L.length c, .slice F f.length cf, .int .i64 p, .int .i64 q] w (FreePost L f p q w) := by
  obtain ⟨m, hm⟩ : ∃ m, m = L.length := ⟨_, rfl⟩
  rw [hlen]
  rw [← hm] at hL1 hlen ⊢
  have Hm := Lib.hid hm
  have Hf := Lib.hid hlen
  clear hm hlen
  go_enter Try.func79, Try.ntmps79
  go_wp2_with fail
  go_loopw [10] (fun i wr => ∃ k d : Nat, k ≤ m ∧ i = .int .i64 k ∧ Hid (∀ j, j < k → frAt L f p q j = false) ∧ wr = w.drewN d) (fun i _ => m - (intOf i).toNat)
  case atStart => exact ⟨0, 0, by omega, rfl, fun j hj => by omega, rfl⟩
  case round =>
    obtain ⟨k, d, hk, rfl, hno, rfl⟩ := hrel
    by_cases hlt : k < m
    · obtain ⟨b, off, rfl, hb, hc⟩ := hL (by rw [← Hm.out]; omega)
      obtain ⟨b', off', rfl, _, hb', hc'⟩ := hF (by rw [Hf.out]; omega)
      obtain ⟨l, hl⟩ : ∃ l, L[k]? = some l := ⟨L[k]'(by rw [← Hm.out]; exact hlt), List.getElem?_eq_getElem _⟩
      obtain ⟨x, hx⟩ : ∃ x, f[k]? = some x := ⟨f[k]'(by rw [Hf.out]; exact hlt), List.getElem?_eq_getElem _⟩
      obtain ⟨c1, c2, c3⟩ := hc k l hl
      have c4 := hc' k x hx
      have hfr : Hid (frAt L f p q k = fr l x p q) := frAt_get hl hx
      have hgl : Hid (L.getD k ln0 = l) := by show _ = _; rw [List.getD_eq_getElem?_getD, hl]; rfl
      obtain ⟨_, _, _, _, hab, hc1, hc9⟩ := hin l (List.mem_of_getElem? hl)
      have w1 : IntKind.i64.wrap (0 - l.c) = -l.c := by rw [IntWalk.i64_in _ (by omega)]; omega
      have w2 : IntKind.i64.wrap (-l.c) = -l.c := IntWalk.i64_in _ (by omega)
      have hyes : fr l x p q = true → nx L f p q = some k := fun h => nx_mk (by rw [hfr.out]; exact h) (by rw [← Hm.out]; exact hlt) hno.out
      have hnext : fr l x p q = false → Hid (∀ j, j < k + 1 → frAt L f p q j = false) := fun h j hj => by
        rcases (by omega : j < k ∨ j = k) with h1 | rfl
        · exact hno.out j h1
        · rw [hfr.out]; exact h
      replace hyes := Lib.hid hyes
      replace hnext := Lib.hid hnext
      have Hab := Lib.hid hab
      clear hc hc' hl hx hab
      by_cases e1 : l.a = p
      · have t1 := bT e1
        have e4 : ¬ l.b = p := fun h => Hab.out (e1.trans h.symm)
        have t4 := bF e4
        by_cases e2 : l.b = q
        · have t2 := bT e2
          by_cases e3 : x < l.c
          · have t3 : decide (x < l.c) = true := decide_eq_true e3
            have hn := Lib.hid (hyes.out (by unfold fr; rw [t1, t2, t3]; rfl))
            have hs : Hid (sg (L.getD k ln0) p = 1) := by show _ = _; rw [hgl.out, sg, if_pos e1]
            clear e1 e2 e4
            go_wp2_with fail
            go_quiet (fail)
            go_wp2_with fail
            go_ret2
            exact ⟨_, by rw [nxI_some hn.out, nxS_some hn.out, hs.out]; rfl, by first | rfl | exact World.drewN_drewN _ _ _ | (rw [World.drewN_drewN, World.drewN_drewN])⟩
          · have t3 : decide (x < l.c) = false := decide_eq_false e3
            have hn := hnext.out (by unfold fr; rw [t1, t2, t3, t4]; rfl)
            clear e1 e2 e4 e3
            go_wp2_with fail
            go_quiet (fail)
            go_wp2_with fail
            go_quiet (fail)
            go_wp2_with fail
            go_roundw
            case rel => exact ⟨k + 1, _, by omega, by go_num, hn, by first | rfl | exact World.drewN_drewN _ _ _ | trivial⟩
            case measure => simp [intOf]; omega
        · have t2 := bF e2
          have hn := hnext.out (by unfold fr; rw [t1, t2, t4]; rfl)
          clear e1 e2 e4
          go_wp2_with fail
          go_quiet (fail)
          go_wp2_with fail
          go_quiet (fail)
          go_wp2_with fail
          go_roundw
          case rel => exact ⟨k + 1, _, by omega, by go_num, hn, by first | rfl | exact World.drewN_drewN _ _ _ | trivial⟩
          case measure => simp [intOf]; omega
      · have t1 := bF e1
        by_cases e4 : l.b = p
        · have t4 := bT e4
          by_cases e5 : l.a = q
          · have t5 := bT e5
            by_cases e6 : -l.c < x
            · have t6 : decide (-l.c < x) = true := decide_eq_true e6
              have hn := Lib.hid (hyes.out (by unfold fr; rw [t1, t4, t5, t6]; rfl))
              have hs : Hid (sg (L.getD k ln0) p = -1) := by show _ = _; rw [hgl.out, sg, if_neg e1]
              clear e1 e4 e5
              go_wp2_with fail
              go_quiet (fail)
              go_wp2_with fail
              go_quiet (fail)
              go_wp2_with fail
              go_ret2
              exact ⟨_, by rw [nxI_some hn.out, nxS_some hn.out, hs.out]; rfl, by first | rfl | exact World.drewN_drewN _ _ _ | (rw [World.drewN_drewN, World.drewN_drewN])⟩
            · have t6 : decide (-l.c < x) = false := decide_eq_false e6
              have hn := hnext.out (by unfold fr; rw [t1, t4, t5, t6]; rfl)
              clear e1 e4 e5 e6
              go_wp2_with fail
              go_quiet (fail)
              go_wp2_with fail
              go_quiet (fail)
              go_wp2_with fail
              go_roundw
              case rel => exact ⟨k + 1, _, by omega, by go_num, hn, by first | rfl | exact World.drewN_drewN _ _ _ | trivial⟩
              case measure => simp [intOf]; omega
          · have t5 := bF e5
            have hn := hnext.out (by unfold fr; rw [t1, t4, t5]; rfl)
            clear e1 e4 e5
            go_wp2_with fail
            go_quiet (fail)
            go_wp2_with fail
            go_quiet (fail)
            go_wp2_with fail
            go_roundw
            case rel => exact ⟨k + 1, _, by omega, by go_num, hn, by first | rfl | exact World.drewN_drewN _ _ _ | trivial⟩
            case measure => simp [intOf]; omega
        · have t4 := bF e4
          have hn := hnext.out (by unfold fr; rw [t1, t4]; rfl)
          clear e1 e4
          go_wp2_with fail
          go_quiet (fail)
          go_wp2_with fail
          go_quiet (fail)
          go_wp2_with fail
          go_roundw
          case rel => exact ⟨k + 1, _, by omega, by go_num, hn, by first | rfl | exact World.drewN_drewN _ _ _ | trivial⟩
          case measure => simp [intOf]; omega
    · obtain rfl : k = m := by omega
      have hn := Lib.hid (nx_no (L := L) (f := f) (p := p) (q := q) (fun i hi => hno.out i (by rw [Hm.out]; exact hi)))
      go_wp2_with fail
      go_ret2
      exact ⟨_, by rw [nxI_none hn.out, nxS_none hn.out]; rfl, rfl⟩
end Go.Proofs.Ytkcfclkpbmeaiaa
