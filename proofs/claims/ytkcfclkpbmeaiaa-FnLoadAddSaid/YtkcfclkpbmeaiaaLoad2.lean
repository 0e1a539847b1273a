/- What goes out of each station; loads valid; their traffic: walked. -/
import Derived.Test.YtkcfclkpbmeaiaaLoad
namespace Go.Proofs.Ytkcfclkpbmeaiaa
set_option linter.unusedVariables false
set_option linter.unusedSimpArgs false
open Go.RowKit
def flowsL (n : Nat) (L : List Ln) (f : List Int) : List Int := (List.range n).map fun s : Nat => outAt L f s
theorem flowsL_len (n : Nat) (L : List Ln) (f : List Int) : (flowsL n L f).length = n := by simp [flowsL]
theorem flowsL_get {n : Nat} (L : List Ln) (f : List Int) {s : Nat} (h : s < n) : (flowsL n L f)[s]? = some (outAt L f s) := by
  rw [flowsL, List.getElem?_map, List.getElem?_range h]; rfl
theorem flows_step {n : Nat} {L : List Ln} {f : List Int} {k : Nat} {l : Ln} {x : Int} (hl : L[k]? = some l) (hx : f[k]? = some x) (a b : Nat) (ha : l.a = a) (hb : l.b = b) (hab : a ≠ b) (han : a < n) (hbn : b < n) :
    ((flowsL n (L.take k) (f.take k)).set a (outAt (L.take k) (f.take k) a + x)).set b (outAt (L.take k) (f.take k) b - x) = flowsL n (L.take (k + 1)) (f.take (k + 1)) := by
  apply List.ext_getElem?
  intro i
  rcases Nat.lt_or_ge i n with hi | hi
  · rw [flowsL_get _ _ hi, outAt_take _ hl hx, outTerm, ha, hb]
    by_cases e2 : b = i
    · subst e2
      rw [List.getElem?_set_self (by rw [List.length_set, flowsL_len]; exact hbn), if_neg (by omega), if_pos rfl]
      exact congrArg some (by omega)
    · rw [List.getElem?_set_ne e2]
      by_cases e1 : a = i
      · subst e1
        rw [List.getElem?_set_self (by rw [flowsL_len]; exact han), if_pos rfl, if_neg (by omega)]
        exact congrArg some (by omega)
      · rw [List.getElem?_set_ne e1, flowsL_get _ _ hi, if_neg (by omega), if_neg (by omega)]
        exact congrArg some (by omega)
  · rw [List.getElem?_eq_none (by rw [List.length_set, List.length_set, flowsL_len]; exact hi), List.getElem?_eq_none (by rw [flowsL_len]; exact hi)]
def FlowsPost (n : Nat) (L : List Ln) (f : List Int) (w : World) (e : Ending) (w' : World) : Prop := ∃ g, e = .returned (.slice (some ⟨g, 0, none⟩) n n) ∧ Row w' g 3 (ivs (flowsL n L f)) ∧ w.heap.size ≤ g ∧ Below w.heap.size w w'
theorem flowsL_zero (n : Nat) (L : List Ln) (f : List Int) : flowsL n (L.take 0) (f.take 0) = List.replicate n 0 := by
  apply List.ext_getElem?
  intro i
  rcases Nat.lt_or_ge i n with hi | hi
  · rw [flowsL_get _ _ hi, List.take_zero, outAt_nil, List.getElem?_replicate, if_pos hi]
  · rw [List.getElem?_eq_none (by rw [flowsL_len]; exact hi), List.getElem?_eq_none (by simpa using hi)]
set_option maxRecDepth 100000 in
theorem iFlows (A : Option Addr) (c : Nat) (L : List Ln) (F : Option Addr) (cf : Nat) (f : List Int) (n : Nat) (hn6 : n ≤ 6) (hn : netIn n L) (hcaps : caps L f) (hlen : f.length = L.length) (hL1 : L.length ≤ 10) (w : World) (hL : Lns w w.heap.size A L) (hF : Iv w 0 w.heap.size F f) :
    Calls Try.prog 54 #[.int .i64 n, .slice A L.length c, .slice F f.length cf] w (FlowsPost n L f w) := by
  have hbd := fun k s => outAt_take_bound hn hL1 hcaps s k
  obtain ⟨m, hm⟩ : ∃ m, m = L.length := ⟨_, rfl⟩
  rw [hlen]
  rw [← hm] at hL1 hlen ⊢
  have Hm := Lib.hid hm
  have Hf := Lib.hid hlen
  have HB := Lib.hid hbd
  have hmk := fun w => mk_row (P := Try.prog) 24 3 (.int .i64 0) 8 Try.underlying24 intInfo rfl (n : Int) n rfl (by omega) (by omega) w
  have hrow0 : Hid (∀ w : World, Row (w.alloc (Obj.cells (madeCells #[.int .i64 0] n) 3)) w.heap.size 3 (ivs (flowsL n (L.take 0) (f.take 0)))) := fun w => by
    refine Row.newS _ 3 _ rfl ?_
    rw [madeCells_toList', ivs_zero, flowsL_zero]
  clear hm hlen hbd
  go_enter Try.func54, Try.ntmps54
  go_wp2_with fail
  go_loopw [14] (fun i wr => ∃ k : Nat, k ≤ m ∧ i = .int .i64 k ∧ Row wr w.heap.size 3 (ivs (flowsL n (L.take k) (f.take k))) ∧ Below w.heap.size w wr) (fun i _ => m - (intOf i).toNat)
  case atStart => exact ⟨0, by omega, rfl, hrow0.out w, (Below.refl _ _).alloc (Nat.le_refl _) _⟩
  case round =>
    obtain ⟨k, hk, rfl, hr, hbel⟩ := hrel
    by_cases hlt : k < m
    · obtain ⟨b, off, rfl, hb, hc⟩ := hL (by rw [← Hm.out]; omega)
      obtain ⟨b', off', rfl, _, hb', hc'⟩ := hF (by rw [Hf.out]; omega)
      obtain ⟨l, hl⟩ : ∃ l, L[k]? = some l := ⟨L[k]'(by rw [← Hm.out]; exact hlt), List.getElem?_eq_getElem _⟩
      obtain ⟨x, hx⟩ : ∃ x, f[k]? = some x := ⟨f[k]'(by rw [Hf.out]; exact hlt), List.getElem?_eq_getElem _⟩
      obtain ⟨c1, c2, c3⟩ := hc k l hl
      have c4 := hc' k x hx
      have hcp := caps_get hcaps hl hx
      have hin := hn l (List.mem_of_getElem? hl)
      obtain ⟨p, q, ch⟩ := l
      simp only at c1 c2 c3 hcp hin
      obtain ⟨hp0, hp1, hq0, hq1, hpq, hc1, hc9⟩ := hin
      obtain ⟨p, rfl⟩ := Int.eq_ofNat_of_zero_le hp0
      obtain ⟨q, rfl⟩ := Int.eq_ofNat_of_zero_le hq0
      have hpn : p < n := by omega
      have hqn : q < n := by omega
      have hne : p ≠ q := by omega
      have hstep := flows_step hl hx p q rfl rfl hne hpn hqn
      have g1 := flowsL_get (L.take k) (f.take k) hpn
      have g2 := flowsL_get (L.take k) (f.take k) hqn
      have hb1 := HB.out k p
      have hb2 := HB.out k q
      obtain ⟨M, hM⟩ : ∃ M, M = flowsL n (L.take k) (f.take k) := ⟨_, rfl⟩
      obtain ⟨u, hu⟩ : ∃ u, u = outAt (L.take k) (f.take k) p := ⟨_, rfl⟩
      obtain ⟨v, hv⟩ : ∃ v, v = outAt (L.take k) (f.take k) q := ⟨_, rfl⟩
      rw [← hM] at hstep g1 g2 hr
      rw [← hu] at hstep g1 hb1
      rw [← hv] at hstep g2 hb2
      have hx9 : -9 ≤ x ∧ x ≤ 9 := by omega
      obtain ⟨hx91, hx92⟩ := hx9
      obtain ⟨hb11, hb12⟩ := hb1
      obtain ⟨hb21, hb22⟩ := hb2
      have d1 := (hbel.cell (p := ⟨b, _, none⟩) hb).trans c1
      have d2 := (hbel.cell (p := ⟨b, _, none⟩) hb).trans c2
      have d3 := (hbel.cell (p := ⟨b, _, none⟩) hb).trans c3
      have d4 := (hbel.cell (p := ⟨b', _, none⟩) hb').trans c4
      have e1 := hr.cellI (ivs_get g1)
      have e2 := hr.cellI (ivs_get g2)
      have f1 := hr.frozen p
      have f2 := hr.frozen q
      have hlt1 := hr.lt
      have hlt2 : b' < wr.heap.size := Nat.lt_of_lt_of_le hb' hbel.size
      have w1 : IntKind.i64.wrap (u + x) = u + x := IntWalk.i64_in _ (by omega)
      have w2 : IntKind.i64.wrap (v - x) = v - x := IntWalk.i64_in _ (by omega)
      have Hst := Lib.hid hstep
      clear c1 c2 c3 c4 hc hc' hl hx hcp hstep g1 g2 hM hu hv
      go_wp2_with fail
      go_region
      go_wp2_with fail
      go_region
      go_wp2_with fail
      go_roundw
      case rel => exact ⟨k + 1, by omega, by go_num, ((((hr.set p _).set q _).alloc _).drew.drew).eq (by rw [ivs_set, ivs_set, Hst.out]), ((((hbel.setCell (by simp) _).setCell (by simp) _).alloc (by simpa using hbel.size) _).drew).drew⟩
      case measure => simp [intOf]; omega
    · obtain rfl : k = m := by omega
      go_wp2_with fail
      go_ret
      rw [List.take_of_length_le (by rw [← Hm.out]; exact Nat.le_refl _), List.take_of_length_le (by rw [Hf.out]; exact Nat.le_refl _)] at hr
      exact ⟨w.heap.size, rfl, hr, Nat.le_refl _, hbel⟩
def stBad (p q s o : Int) : Bool := (s != p && (s != q && o != 0)) || (s == p && decide (o < 0))
/-- Is f a load? -/
def LoadP (n : Int) (L : List Ln) (p q : Int) (f : List Int) : Prop := twoOk n L p q = true ∧ f.length = L.length ∧ caps L f ∧ ∀ s : Nat, (s : Int) < n → stBad p q s (outAt L f s) = false
theorem ff_iff {P : Prop} (h : ¬ P) : (false = true ↔ P) := ⟨(fun h => by cases h), fun hp => absurd hp h⟩
theorem tt_iff {P : Prop} (h : P) : (true = true ↔ P) := ⟨fun _ => h, fun _ => rfl⟩
def BoolPost (P : Prop) (w : World) (e : Ending) (w' : World) : Prop := ∃ r : Bool, e = .returned (.bool r) ∧ (r = true ↔ P) ∧ Below w.heap.size w w'
theorem caps_next {L : List Ln} {f : List Int} {k : Nat} {l : Ln} {x : Int} (h : ∀ j l x, j < k → L[j]? = some l → f[j]? = some x → -l.c ≤ x ∧ x ≤ l.c) (hl : L[k]? = some l) (hx : f[k]? = some x) (hb : -l.c ≤ x ∧ x ≤ l.c) :
    ∀ j l x, j < k + 1 → L[j]? = some l → f[j]? = some x → -l.c ≤ x ∧ x ≤ l.c := fun j l' x' hj hl' hx' => by
  rcases (by omega : j < k ∨ j = k) with h1 | rfl
  · exact h j l' x' h1 hl' hx'
  · have e1 := hl.symm.trans hl'
    have e2 := hx.symm.trans hx'
    injection e1 with e1
    injection e2 with e2
    subst e1 e2
    exact hb
theorem good_next {g : Nat → Bool} {s : Nat} (h : ∀ j : Nat, j < s → g j = false) (hb : g s = false) : ∀ j : Nat, j < s + 1 → g j = false := fun j hj => by
  rcases (by omega : j < s ∨ j = s) with h1 | rfl
  · exact h j h1
  · exact hb
theorem capB {l : Ln} {x : Int} : inB x (-l.c) l.c = true ↔ -l.c ≤ x ∧ x ≤ l.c := inB_iff
set_option maxRecDepth 100000 in
theorem sLoadValid (n : Int) (A : Option Addr) (c : Nat) (L : List Ln) (p q : Int) (F : Option Addr) (cf : Nat) (f : List Int) (hL1 : L.length ≤ 1048576) (hf1 : f.length ≤ 1048576) (w : World) (hL : Lns w w.heap.size A L) (hF : Iv w 0 w.heap.size F f) :
    Calls Try.prog 16 #[.int .i64 n, .slice A L.length c, .int .i64 p, .int .i64 q, .slice F f.length cf] w (BoolPost (LoadP n L p q f) w) := by
  have hT := sTwo n A c L p q hL1 w hL
  cases h1 : twoOk n L p q with
  | false =>
    rw [h1] at hT
    have HP : Hid (¬ LoadP n L p q f) := fun h => by rw [h.1] at h1; cases h1
    have HT := Lib.hid hT
    clear h1 hT
    go_enter Try.func16, Try.ntmps16
    go_wp2_with fail
    refine HT.out.mono ?_
    rintro e w1 ⟨rfl, hb⟩
    go_wp2_with fail
    go_ret
    exact ⟨false, rfl, ff_iff HP.out, hb⟩
  | true =>
    obtain ⟨h2, hp0, hp1, hq0, hq1, hpq⟩ := twoOk_n h1
    obtain ⟨n2, n6, hlen10, hin⟩ := netOk_n h2
    rw [h1] at hT
    have HT := Lib.hid hT
    have H1 := Lib.hid h1
    clear hT h1 h2
    obtain ⟨nn, rfl⟩ := Int.eq_ofNat_of_zero_le (by omega : 0 ≤ n)
    rw [Int.toNat_natCast] at hin
    obtain ⟨m, hm⟩ : ∃ m, m = L.length := ⟨_, rfl⟩
    obtain ⟨m2, hm2⟩ : ∃ m, m = f.length := ⟨_, rfl⟩
    have Hm := Lib.hid hm
    have Hm2 := Lib.hid hm2
    have HO := Lib.hid (sOut A c L F cf f nn hin)
    rw [← hm] at hL1 hlen10 HT ⊢
    rw [← hm2] at hf1 ⊢
    clear hm hm2
    by_cases hmm : m2 = m
    · subst hmm
      go_enter Try.func16, Try.ntmps16
      go_wp2_with fail
      refine HT.out.mono ?_
      rintro e w1 ⟨rfl, hb⟩
      have hL' := hL.below hb
      have hF' := hF.below hb (Nat.le_refl _)
      go_wp2_with fail
      go_loopw [11] (fun i wr => ∃ k : Nat, k ≤ m2 ∧ i = .int .i64 k ∧ Hid (∀ j l x, j < k → L[j]? = some l → f[j]? = some x → -l.c ≤ x ∧ x ≤ l.c) ∧ Below w.heap.size w wr) (fun i _ => m2 - (intOf i).toNat)
      case atStart => exact ⟨0, by omega, rfl, fun j l x hj => by omega, hb⟩
      case round =>
        obtain ⟨k, hk, rfl, hall, hbel⟩ := hrel
        by_cases hlt : k < m2
        · obtain ⟨b, off, rfl, hb, hc⟩ := (hL.below hbel) (by rw [← Hm.out]; omega)
          obtain ⟨b', off', rfl, _, hb', hc'⟩ := (hF.below hbel (Nat.le_refl _)) (by rw [← Hm2.out]; omega)
          obtain ⟨l, hl⟩ : ∃ l, L[k]? = some l := ⟨L[k]'(by rw [← Hm.out]; exact hlt), List.getElem?_eq_getElem _⟩
          obtain ⟨x, hx⟩ : ∃ x, f[k]? = some x := ⟨f[k]'(by rw [← Hm2.out]; exact hlt), List.getElem?_eq_getElem _⟩
          obtain ⟨c1, c2, c3⟩ := hc k l hl
          have c4 := hc' k x hx
          have hli := hin l (List.mem_of_getElem? hl)
          have hl1 : 1 ≤ l.c := by omega
          have hl9 : l.c ≤ 9 := by omega
          have w1 : IntKind.i64.wrap (0 - l.c) = 0 - l.c := IntWalk.i64_in _ (by omega)
          have w2 : IntKind.i64.wrap (-l.c) = -l.c := IntWalk.i64_in _ (by omega)
          obtain ⟨r, hr⟩ : ∃ r, inB x (-l.c) l.c = r := ⟨_, rfl⟩
          replace hr := Lib.hid hr
          replace hl := Lib.hid hl
          replace hx := Lib.hid hx
          clear c1 c2 hc hc' hli
          go_wp2_with fail
          go_quiet ((go_at_call 56; exact Calls.quiet_of_same ((l6In_b _ _ _ _ hr.out _).mono fun _ _ h => ⟨h.1, h.2.symm⟩)))
          cases r with
          | false =>
            go_wp2_with fail
            go_ret
            refine ⟨false, rfl, ff_iff fun h => ?_, below_drewN hbel _⟩
            have := capB.2 (caps_get h.2.2.1 hl.out hx.out)
            rw [hr.out] at this; cases this
          | true =>
            go_wp2_with fail
            go_roundw
            case rel => exact ⟨k + 1, by omega, by go_num, caps_next hall.out hl.out hx.out (capB.1 hr.out), below_drewN hbel _⟩
            case measure => simp [intOf]; omega
        · obtain rfl : k = m2 := by omega
          have hcaps : caps L f := caps_mk fun j l x hl hx => hall.out j l x (by rw [Hm.out]; exact (List.getElem?_eq_some_iff.1 hl).1) hl hx
          have Hc := Lib.hid hcaps
          have hbd := fun s => outAt_bound hin hcaps s
          rw [← Hm.out] at hbd
          have HB := Lib.hid hbd
          clear hcaps hbd
          go_wp2_with fail
          obtain ⟨wo, rfl⟩ : ∃ wo : World, wo = wr := ⟨_, rfl⟩
          go_loopw [12, 13] (fun i _ wr => ∃ s : Nat, s ≤ nn ∧ i = .int .i64 s ∧ Hid (∀ j : Nat, j < s → stBad p q j (outAt L f j) = false) ∧ Below w.heap.size w wr) (fun i _ _ => nn - (intOf i).toNat)
          case atStart => exact ⟨0, by omega, rfl, fun j hj => by omega, hbel⟩
          case round =>
            obtain ⟨s, hs, rfl, hgood, hbel⟩ := hrel
            by_cases hslt : s < nn
            · obtain ⟨o, ho⟩ : ∃ o, o = outAt L f s := ⟨_, rfl⟩
              have hob := HB.out s
              have ho' := HO.out Hc.out (Hm2.out.symm.trans Hm.out) (by rw [← Hm.out]; exact hlen10) s
              rw [← ho] at hob ho'
              obtain ⟨hob1, hob2⟩ := hob
              replace ho := Lib.hid ho
              rw [← Hm.out, ← Hm2.out] at ho'
              replace ho' := Lib.hid ho'
              have done : ∀ b, stBad p q s o = b → Hid (stBad p q s (outAt L f s) = b) := fun b h => by rw [← ho.out]; exact h
              replace done := Lib.hid done
              go_wp2_with fail
              refine (ho'.out _ _ (hL.below hbel) (hF.below hbel (Nat.le_refl _))).mono ?_
              rintro e w2 ⟨rfl, rfl⟩
              by_cases e1 : (s : Int) = p
              · subst e1
                have t1 : ((s : Int) == s) = true := by simp
                have t2 : ((s : Int) != s) = false := by simp
                by_cases e3 : o < 0
                · have hB := done.out true (by unfold stBad; simp [e3])
                  go_wp2_with fail
                  go_ret
                  exact ⟨false, rfl, ff_iff (fun h => by have := h.2.2.2 s (by omega); rw [hB.out] at this; cases this), hbel⟩
                · have hB := done.out false (by unfold stBad; simp [e3])
                  have e3' : 0 ≤ o := by omega
                  go_wp2_with fail
                  go_roundw
                  case rel => exact ⟨s + 1, by omega, by go_num, good_next hgood.out hB.out, hbel⟩
                  case measure => simp [intOf]; omega
              · have t1 := bF e1
                have t2 := nT e1
                by_cases e2 : (s : Int) = q
                · have t3 := bT e2
                  have t4 := nF e2
                  have hB := done.out false (by unfold stBad; rw [t1, t2, t4]; rfl)
                  clear e1 e2
                  go_wp2_with fail
                  go_roundw
                  case rel => exact ⟨s + 1, by omega, by go_num, good_next hgood.out hB.out, hbel⟩
                  case measure => simp [intOf]; omega
                · have t3 := bF e2
                  have t4 := nT e2
                  by_cases e3 : o = 0
                  · have t5 := bT e3
                    have t6 := nF e3
                    have hB := done.out false (by unfold stBad; rw [t1, t2, t4, t6]; rfl)
                    clear e1 e2 e3
                    go_wp2_with fail
                    go_roundw
                    case rel => exact ⟨s + 1, by omega, by go_num, good_next hgood.out hB.out, hbel⟩
                    case measure => simp [intOf]; omega
                  · have t5 := bF e3
                    have t6 := nT e3
                    have hB := done.out true (by unfold stBad; rw [t1, t2, t4, t6]; rfl)
                    clear e1 e2 e3
                    go_wp2_with fail
                    go_ret
                    exact ⟨false, rfl, ff_iff (fun h => by have := h.2.2.2 s (by omega); rw [hB.out] at this; cases this), hbel⟩
            · obtain rfl : s = nn := by omega
              go_wp2_with fail
              go_ret
              exact ⟨true, rfl, tt_iff ⟨H1.out, Hm2.out.symm.trans Hm.out, Hc.out, fun j hj => hgood.out j (by omega)⟩, hbel⟩
    · have hne : ((m2 : Int) != (m : Int)) = true := nT (by omega)
      have hne2 : ((m2 : Int) == (m : Int)) = false := bF (by omega)
      have HP : Hid (¬ LoadP nn L p q f) := fun h => hmm (by rw [Hm.out, Hm2.out]; exact h.2.1)
      clear hmm
      go_enter Try.func16, Try.ntmps16
      go_wp2_with fail
      refine HT.out.mono ?_
      rintro e w1 ⟨rfl, hb⟩
      go_wp2_with fail
      go_ret
      exact ⟨false, rfl, ff_iff HP.out, hb⟩
end Go.Proofs.Ytkcfclkpbmeaiaa
