/- JobsValid and JobsDays of the reference and of the program, walked. -/
import Derived.Test.YtglncadfmomamaaJb
namespace Go.Proofs.Ytglncadfmomamaa
set_option linter.unusedVariables false
set_option linter.unusedSimpArgs false
open Go.RowKit
def jbOk (l : Jb) : Bool := inB l.d 1 9 && inB l.w 1 9
def jobsOk (L : List Jb) : Bool := L.all jbOk && decide (L.length ≤ 6)
theorem jobsOk_bad {L : List Jb} {l : Jb} {k : Nat} (hl : L[k]? = some l) (h : jbOk l = false) : jobsOk L = false := by
  have : L.all jbOk = false := by
    rw [List.all_eq_false]
    exact ⟨l, List.mem_of_getElem? hl, by rw [h]; simp⟩
  rw [jobsOk, this]; rfl
theorem jobs_take {L : List Jb} {k : Nat} {c : Jb} (h : L[k]? = some c) (hk : (L.take k).all jbOk = true) (hc : jbOk c = true) : (L.take (k + 1)).all jbOk = true := by
  rw [List.take_add_one, h]; simp [hk, hc]
theorem jobsOk_n {L : List Jb} (h : jobsOk L = true) : L.length ≤ 6 ∧ ∀ (k : Nat) (l : Jb), L[k]? = some l → 1 ≤ l.d ∧ l.d ≤ 9 ∧ 1 ≤ l.w ∧ l.w ≤ 9 := by
  unfold jobsOk at h
  rw [Bool.and_eq_true, decide_eq_true_eq, List.all_eq_true] at h
  refine ⟨h.2, fun k l hl => ?_⟩
  have := h.1 l (List.mem_of_getElem? hl)
  unfold jbOk at this
  rw [Bool.and_eq_true, inB_iff, inB_iff] at this
  exact ⟨this.1.1, this.1.2, this.2.1, this.2.2⟩
set_option maxRecDepth 100000 in
theorem specJobs (A : Option Addr) (c : Nat) (L : List Jb) (hL1 : L.length ≤ 1048576) (w : World) (hL : Jbs w w.heap.size A L) :
    Calls Try.prog 17 #[.slice A L.length c] w fun e w' => e = .returned (.bool (jobsOk L)) ∧ w = w' := by
  obtain ⟨R, hR⟩ : ∃ R, R = jobsOk L := ⟨_, rfl⟩
  rw [← hR]
  obtain ⟨m, hm⟩ : ∃ m, m = L.length := ⟨_, rfl⟩
  rw [← hm] at hL1 ⊢
  have HR := Lib.hid hR
  have Hm := Lib.hid hm
  clear hR hm
  go_enter Try.func17, Try.ntmps17
  go_wp2_with fail
  go_loop [3] (fun i => ∃ k : Nat, k ≤ m ∧ i = .int .i64 k ∧ Hid ((L.take k).all jbOk = true)) (fun i => m - (intOf i).toNat)
  case atStart => exact ⟨0, by omega, rfl, by simp [Hid]⟩
  case round =>
    obtain ⟨k, hk, rfl, hall⟩ := hrel
    by_cases hlt : k < m
    · obtain ⟨b, off, rfl, hb, hc⟩ := hL (by rw [← Hm.out]; omega)
      obtain ⟨l, hl⟩ : ∃ l, L[k]? = some l := ⟨L[k]'(by rw [← Hm.out]; exact hlt), List.getElem?_eq_getElem _⟩
      obtain ⟨c1, c2⟩ := hc k l hl
      replace hl := Lib.hid hl
      clear hc
      obtain ⟨r1, h1⟩ : ∃ r, inB l.d 1 9 = r := ⟨_, rfl⟩
      replace h1 := Lib.hid h1
      go_wp2_with fail
      refine (l6In_b _ _ _ _ h1.out _).mono ?_
      rintro e w4 ⟨rfl, rfl⟩
      cases r1 with
      | false =>
        go_wp2_with fail
        go_ret
        exact ⟨ret_bool (by rw [HR.out, jobsOk_bad hl.out (by rw [jbOk, h1.out]; rfl)]), rfl⟩
      | true =>
        obtain ⟨r2, h2⟩ : ∃ r, inB l.w 1 9 = r := ⟨_, rfl⟩
        replace h2 := Lib.hid h2
        go_wp2_with fail
        refine (l6In_b _ _ _ _ h2.out _).mono ?_
        rintro e w4 ⟨rfl, rfl⟩
        cases r2 with
        | false =>
          go_wp2_with fail
          go_ret
          exact ⟨ret_bool (by rw [HR.out, jobsOk_bad hl.out (by rw [jbOk, h1.out, h2.out]; rfl)]), rfl⟩
        | true =>
          go_wp2_with fail
          go_round
          case rel => exact ⟨k + 1, by omega, by go_num, jobs_take hl.out hall.out (by rw [jbOk, h1.out, h2.out]; rfl)⟩
          case measure => simp [intOf]; omega
    · obtain rfl : k = m := by omega
      have h5 := hall.out
      rw [List.take_of_length_le (by rw [← Hm.out]; exact Nat.le_refl _)] at h5
      have hRd : Hid (R = decide (k ≤ 6)) := by show _ = _; rw [HR.out, jobsOk, h5, ← Hm.out]; rfl
      go_wp2_with fail
      go_ret
      refine ⟨ret_bool ?_, rfl⟩
      rw [hRd.out]
      exact decide_eq_decide.2 (by omega)
/-- The closure: is a repair none? -/
theorem notJob (l : Jb) (w : World) :
    Calls Try.prog 51 #[.agg #[.int .i64 l.d, .int .i64 l.w]] w fun e w' => e = .returned (.bool (!jbOk l)) ∧ Below w.heap.size w w' := by
  obtain ⟨r1, h1⟩ : ∃ r, inB l.d 1 9 = r := ⟨_, rfl⟩
  obtain ⟨r2, h2⟩ : ∃ r, inB l.w 1 9 = r := ⟨_, rfl⟩
  have hb : Below w.heap.size w (w.alloc (Obj.cells #[.int .i64 l.d, .int .i64 l.w] 38)) := (Below.refl _ _).alloc (Nat.le_refl _) _
  have hr : Hid (jbOk l = (r1 && r2)) := by show _ = _; rw [jbOk, h1, h2]
  rw [hr.out]
  have H1 := Lib.hid h1
  have H2 := Lib.hid h2
  clear h1 h2 hr
  cases r1 with
  | false =>
    go_enter Try.func51, Try.ntmps51
    go_wp2_with fail
    refine (within_b _ _ _ _ H1.out _).mono ?_
    rintro e w4 ⟨rfl, rfl⟩
    go_wp2_with fail
    go_ret
    exact ⟨rfl, hb⟩
  | true =>
    go_enter Try.func51, Try.ntmps51
    go_wp2_with fail
    refine (within_b _ _ _ _ H1.out _).mono ?_
    rintro e w4 ⟨rfl, rfl⟩
    go_wp2_with fail
    refine (within_b _ _ _ _ H2.out _).mono ?_
    rintro e w4 ⟨rfl, rfl⟩
    cases r2
    all_goals
      go_wp2_with fail
      go_ret
      exact ⟨rfl, hb⟩
def JIdx (L : List Jb) (w : World) (e : Ending) (w' : World) : Prop := ∃ r : Int, e = .returned (.int .i64 r) ∧ -1 ≤ r ∧ (r < 0 ↔ L.all jbOk = true) ∧ Below w.heap.size w w'
set_option maxRecDepth 100000 in
theorem idxJob (A : Option Addr) (c : Nat) (L : List Jb) (hn : L.length ≤ 1048576) (w : World) (hL : Jbs w w.heap.size A L) :
    Calls Try.prog 78 #[.slice A L.length c, .func (.func 51) #[] #[]] w (JIdx L w) := by
  obtain ⟨n, hnl⟩ : ∃ n, n = L.length := ⟨_, rfl⟩
  have Hn := Lib.hid hnl
  rw [← hnl] at hn ⊢
  clear hnl
  have HF := Lib.hid (fun l w => notJob l w)
  go_enter Try.func78, Try.ntmps78
  go_wp2_with fail
  go_loopw [5, 8] (fun _ i wr => ∃ k : Nat, k ≤ n ∧ i = .int .i64 k ∧ Hid ((L.take k).all jbOk = true) ∧ Below w.heap.size w wr) (fun _ i _ => n - (intOf i).toNat)
  case atStart => exact ⟨0, by omega, rfl, by simp [Hid], Below.refl _ _⟩
  case round =>
    obtain ⟨k, hk, rfl, hall, hbel⟩ := hrel
    by_cases hlt : k < n
    · obtain ⟨b, off, rfl, hb, hc⟩ := hL (by rw [← Hn.out]; omega)
      obtain ⟨l, hl⟩ : ∃ l, L[k]? = some l := ⟨L[k]'(by rw [← Hn.out]; exact hlt), List.getElem?_eq_getElem _⟩
      obtain ⟨c1, c2⟩ := hc k l hl
      have d1 := (hbel.cell (p := ⟨b, _, none⟩) hb).trans c1
      have d2 := (hbel.cell (p := ⟨b, _, none⟩) hb).trans c2
      obtain ⟨r, hr⟩ : ∃ r, jbOk l = r := ⟨_, rfl⟩
      have HFl := Lib.hid (HF.out l)
      rw [hr] at HFl
      replace hl := Lib.hid hl
      replace hr := Lib.hid hr
      clear c1 c2 hc
      go_wp2_with fail
      refine (HFl.out _).mono ?_
      rintro e w2 ⟨rfl, hb2⟩
      replace hbel := hbel.trans (hb2.mono hbel.size)
      clear hb2
      cases r with
      | false =>
        go_wp2_with fail
        go_ret
        refine ⟨k, rfl, by omega, ⟨fun h => by omega, fun h => ?_⟩, hbel⟩
        rw [List.all_eq_true] at h
        have := h l (List.mem_of_getElem? hl.out)
        rw [hr.out] at this; cases this
      | true =>
        go_wp2_with fail
        go_roundw
        case rel => exact ⟨k + 1, by omega, by go_num, jobs_take hl.out hall.out hr.out, hbel⟩
        case measure => simp [intOf]; omega
    · obtain rfl : k = n := by omega
      have h5 := hall.out
      rw [List.take_of_length_le (by rw [← Hn.out]; exact Nat.le_refl _)] at h5
      replace h5 := Lib.hid h5
      go_wp2_with fail
      go_ret
      exact ⟨-1, rfl, by omega, ⟨fun _ => h5.out, fun _ => by omega⟩, hbel⟩
theorem implJobs (A : Option Addr) (c : Nat) (L : List Jb) (hL1 : L.length ≤ 1048576) (w : World) (hL : Jbs w w.heap.size A L) :
    Calls Try.prog 19 #[.slice A L.length c] w fun e w' => e = .returned (.bool (jobsOk L)) ∧ Below w.heap.size w w' := by
  have HI := Lib.hid (idxJob A c L hL1 w hL)
  have hcf : Calls Try.prog 50 #[.slice A L.length c, .func (.func 51) #[] #[]] w fun e w' => e = .returned (.bool (!L.all jbOk)) ∧ Below w.heap.size w w' := by
    go_enter Try.func50, Try.ntmps50
    go_wp2_with fail
    refine HI.out.mono ?_
    rintro e w1 ⟨r, rfl, hr1, hr, hb⟩
    have Hr := Lib.hid hr
    clear hr
    by_cases h0 : r < 0
    · have h0' : decide (0 ≤ r) = false := decide_eq_false (by omega)
      go_wp2_with fail
      go_ret
      exact ⟨ret_bool (by rw [Hr.out.1 h0]; rfl), hb⟩
    · have h0' : decide (0 ≤ r) = true := decide_eq_true (by omega)
      go_wp2_with fail
      go_ret
      refine ⟨ret_bool ?_, hb⟩
      cases ha : L.all jbOk with
      | true => exact absurd (Hr.out.2 ha) (by omega)
      | false => rfl
  have HC := Lib.hid hcf
  clear hcf HI
  obtain ⟨m, hm⟩ : ∃ m, m = L.length := ⟨_, rfl⟩
  by_cases h6 : L.length ≤ 6
  · have hR : Hid (jobsOk L = L.all jbOk) := by show _ = _; rw [jobsOk, decide_eq_true h6, Bool.and_true]
    rw [hR.out]
    obtain ⟨r, hr⟩ : ∃ r, r = L.all jbOk := ⟨_, rfl⟩
    rw [← hr] at HC ⊢
    rw [← hm] at HC h6 hL1 ⊢
    clear hm hr hR
    go_enter Try.func19, Try.ntmps19
    go_wp2_with fail
    refine HC.out.mono ?_
    rintro e w1 ⟨rfl, hb⟩
    go_wp2_with fail
    go_ret
    exact ⟨by first | rfl | simp, hb⟩
  · have hR : jobsOk L = false := by rw [jobsOk, decide_eq_false h6, Bool.and_false]
    rw [hR]
    rw [← hm] at h6 hL1 ⊢
    clear hm hR HC
    go_enter Try.func19, Try.ntmps19
    go_wp2_with fail
    go_ret
    exact ⟨rfl, Below.refl _ _⟩
def jDays : List Jb → Int
  | [] => 0
  | l :: L => l.d + jDays L
theorem jDays_next {L : List Jb} {k : Nat} {l : Jb} (h : L[k]? = some l) : jDays (L.take (k + 1)) = jDays (L.take k) + l.d := by
  induction L generalizing k with
  | nil => simp at h
  | cons x L ih => cases k with
    | zero => simp at h; subst h; simp [jDays]
    | succ k => rw [List.take_succ_cons, List.take_succ_cons, jDays, jDays, ih (by simpa using h)]; omega
theorem jDays_bound {L : List Jb} (h : jobsOk L = true) (k : Nat) (hk : k ≤ L.length) : (k : Int) ≤ jDays (L.take k) ∧ jDays (L.take k) ≤ 9 * k := by
  induction k with
  | zero => simp [jDays]
  | succ k ih =>
    have hl : L[k]? = some L[k] := List.getElem?_eq_getElem (by omega)
    have := (jobsOk_n h).2 k _ hl
    rw [jDays_next hl]
    have := ih (by omega)
    omega
def daysV (L : List Jb) : Int := if jobsOk L = true then jDays L else -1
set_option maxRecDepth 100000 in
theorem daysOf_any (A : Option Addr) (c : Nat) (L : List Jb) (hok : jobsOk L = true) (w : World) (hL : Jbs w w.heap.size A L) :
    Calls Try.prog 54 #[.slice A L.length c] w fun e w' => e = .returned (.int .i64 (jDays L)) ∧ Below w.heap.size w w' := by
  obtain ⟨h6, hin⟩ := jobsOk_n hok
  have Hb := Lib.hid (fun k hk => jDays_bound hok k hk)
  have Hin := Lib.hid hin
  have Hnx := Lib.hid (fun k l (h : L[k]? = some l) => jDays_next h)
  obtain ⟨m, hm⟩ : ∃ m, m = L.length := ⟨_, rfl⟩
  have hend : Hid (jDays (L.take m) = jDays L) := by show _ = _; rw [hm, List.take_length]
  rw [← hm] at h6 Hb ⊢
  have Hm := Lib.hid hm
  clear hm hok hin
  go_enter Try.func54, Try.ntmps54
  go_wp2_with fail
  go_loopw [3, 8] (fun a i wr => ∃ (k : Nat) (x : Int), k ≤ m ∧ i = .int .i64 k ∧ a = .int .i64 x ∧ Hid (x = jDays (L.take k)) ∧ Below w.heap.size w wr) (fun _ i _ => m - (intOf i).toNat)
  case atStart => exact ⟨0, 0, by omega, rfl, rfl, rfl, Below.refl _ _⟩
  case round =>
    obtain ⟨k, x, hk, rfl, rfl, hx, hbel⟩ := hrel
    by_cases hlt : k < m
    · obtain ⟨b, off, rfl, hb, hc⟩ := hL (by rw [← Hm.out]; omega)
      obtain ⟨l, hl⟩ : ∃ l, L[k]? = some l := ⟨L[k]'(by rw [← Hm.out]; exact hlt), List.getElem?_eq_getElem _⟩
      obtain ⟨c1, c2⟩ := hc k l hl
      have d1 := (hbel.cell (p := ⟨b, _, none⟩) hb).trans c1
      have d2 := (hbel.cell (p := ⟨b, _, none⟩) hb).trans c2
      obtain ⟨b1, b2, b3, b4⟩ := Hin.out k l hl
      have hxb := Hb.out k hk
      rw [← hx.out] at hxb
      have hn := Lib.hid (Hnx.out k l hl)
      have hbl : Below w.heap.size w (wr.alloc (Obj.cells #[.int .i64 l.d, .int .i64 l.w] 38)) := hbel.alloc hbel.size _
      clear c1 c2 hc hl
      go_wp2_with fail
      go_roundw
      case rel => exact ⟨k + 1, x + l.d, by omega, by go_num, rfl, by show _ = _; rw [hn.out, hx.out], hbl⟩
      case measure => simp [intOf]; omega
    · obtain rfl : k = m := by omega
      have hR : Hid (x = jDays L) := by show _ = _; rw [hx.out, hend.out]
      go_wp2_with fail
      go_ret
      exact ⟨ret_int hR.out, hbel⟩
set_option maxRecDepth 100000 in
theorem specJobsDays (A : Option Addr) (c : Nat) (L : List Jb) (hL1 : L.length ≤ 1048576) (w : World) (hL : Jbs w w.heap.size A L) :
    Calls Try.prog 21 #[.slice A L.length c] w fun e w' => e = .returned (.int .i64 (daysV L)) ∧ w = w' := by
  have HV := specJobs A c L hL1 w hL
  cases hok : jobsOk L with
  | false =>
    rw [hok] at HV
    have H := Lib.hid HV
    have e : daysV L = -1 := by rw [daysV, hok]; rfl
    rw [e]
    clear hok HV e
    go_enter Try.func21, Try.ntmps21
    go_wp2_with fail
    refine H.out.mono ?_
    rintro e w1 ⟨rfl, rfl⟩
    go_wp2_with fail
    go_ret
    exact ⟨rfl, rfl⟩
  | true =>
    rw [hok] at HV
    have H := Lib.hid HV
    have e : daysV L = jDays L := by rw [daysV, hok]; rfl
    rw [e]
    obtain ⟨h6, hin⟩ := jobsOk_n hok
    have Hb := Lib.hid (fun k hk => jDays_bound hok k hk)
    have Hin := Lib.hid hin
    have Hnx := Lib.hid (fun k l (h : L[k]? = some l) => jDays_next h)
    obtain ⟨m, hm⟩ : ∃ m, m = L.length := ⟨_, rfl⟩
    have hend : Hid (jDays (L.take m) = jDays L) := by show _ = _; rw [hm, List.take_length]
    rw [← hm] at h6 Hb H hL1 ⊢
    have Hm := Lib.hid hm
    clear hm hok hin e HV
    go_enter Try.func21, Try.ntmps21
    go_wp2_with fail
    refine H.out.mono ?_
    rintro e w1 ⟨rfl, rfl⟩
    go_wp2_with fail
    go_loop [3, 4] (fun a i => ∃ (k : Nat) (x : Int), k ≤ m ∧ i = .int .i64 k ∧ a = .int .i64 x ∧ Hid (x = jDays (L.take k))) (fun _ i => m - (intOf i).toNat)
    case atStart => exact ⟨0, 0, by omega, rfl, rfl, rfl⟩
    case round =>
      obtain ⟨k, x, hk, rfl, rfl, hx⟩ := hrel
      by_cases hlt : k < m
      · obtain ⟨b, off, rfl, hb, hc⟩ := hL (by rw [← Hm.out]; omega)
        obtain ⟨l, hl⟩ : ∃ l, L[k]? = some l := ⟨L[k]'(by rw [← Hm.out]; exact hlt), List.getElem?_eq_getElem _⟩
        obtain ⟨c1, c2⟩ := hc k l hl
        obtain ⟨b1, b2, b3, b4⟩ := Hin.out k l hl
        have hxb := Hb.out k hk
        rw [← hx.out] at hxb
        have hn := Lib.hid (Hnx.out k l hl)
        clear hc hl
        go_wp2_with fail
        go_round
        case rel => exact ⟨k + 1, x + l.d, by omega, by go_num, rfl, by show _ = _; rw [hn.out, hx.out]⟩
        case measure => simp [intOf]; omega
      · obtain rfl : k = m := by omega
        have hR : Hid (x = jDays L) := by show _ = _; rw [hx.out, hend.out]
        go_wp2_with fail
        go_ret
        exact ⟨ret_int hR.out, rfl⟩
theorem implJobsDays (A : Option Addr) (c : Nat) (L : List Jb) (hL1 : L.length ≤ 1048576) (w : World) (hL : Jbs w w.heap.size A L) :
    Calls Try.prog 22 #[.slice A L.length c] w fun e w' => e = .returned (.int .i64 (daysV L)) ∧ Below w.heap.size w w' := by
  have HV := implJobs A c L hL1 w hL
  cases hok : jobsOk L with
  | false =>
    rw [hok] at HV
    have H := Lib.hid HV
    have e : daysV L = -1 := by rw [daysV, hok]; rfl
    rw [e]
    clear hok HV e
    go_enter Try.func22, Try.ntmps22
    go_wp2_with fail
    refine H.out.mono ?_
    rintro e w1 ⟨rfl, hb⟩
    go_wp2_with fail
    go_ret
    exact ⟨rfl, hb⟩
  | true =>
    rw [hok] at HV
    have H := Lib.hid HV
    have HD := Lib.hid (fun w hL => daysOf_any A c L hok w hL)
    have e : daysV L = jDays L := by rw [daysV, hok]; rfl
    rw [e]
    clear hok HV e
    go_enter Try.func22, Try.ntmps22
    go_wp2_with fail
    refine H.out.mono ?_
    rintro e w1 ⟨rfl, hb⟩
    go_wp2_with fail
    refine (HD.out _ ((hL.below hb).more hb.size)).mono ?_
    rintro e w2 ⟨rfl, hb2⟩
    replace hb2 := hb.trans (hb2.mono hb.size)
    go_wp2_with fail
    go_ret
    exact ⟨rfl, hb2⟩
theorem eq2 {α : Type} {a b c : α} (h : a = c) (k : b = c) : a = b := h.trans k.symm
theorem specJobsB (A : Option Addr) (c : Nat) (L : List Jb) (hL1 : L.length ≤ 1048576) (w : World) (hL : Jbs w w.heap.size A L) :
    Calls Try.prog 17 #[.slice A L.length c] w fun e w' => ∃ r, e = .returned (.bool r) ∧ r = jobsOk L ∧ Below w.heap.size w w' :=
  (specJobs A c L hL1 w hL).mono fun _ _ ⟨he, hw⟩ => ⟨_, he, rfl, by subst hw; exact Below.refl _ _⟩
theorem implJobsB (A : Option Addr) (c : Nat) (L : List Jb) (hL1 : L.length ≤ 1048576) (w : World) (hL : Jbs w w.heap.size A L) :
    Calls Try.prog 19 #[.slice A L.length c] w fun e w' => ∃ r, e = .returned (.bool r) ∧ r = jobsOk L ∧ Below w.heap.size w w' :=
  (implJobs A c L hL1 w hL).mono fun _ _ ⟨he, hw⟩ => ⟨_, he, rfl, hw⟩
theorem specDaysI (A : Option Addr) (c : Nat) (L : List Jb) (hL1 : L.length ≤ 1048576) (w : World) (hL : Jbs w w.heap.size A L) :
    Calls Try.prog 21 #[.slice A L.length c] w fun e w' => ∃ r, e = .returned (.int .i64 r) ∧ r = daysV L ∧ Below w.heap.size w w' :=
  (specJobsDays A c L hL1 w hL).mono fun _ _ ⟨he, hw⟩ => ⟨_, he, rfl, by subst hw; exact Below.refl _ _⟩
theorem implDaysI (A : Option Addr) (c : Nat) (L : List Jb) (hL1 : L.length ≤ 1048576) (w : World) (hL : Jbs w w.heap.size A L) :
    Calls Try.prog 22 #[.slice A L.length c] w fun e w' => ∃ r, e = .returned (.int .i64 r) ∧ r = daysV L ∧ Below w.heap.size w w' :=
  (implJobsDays A c L hL1 w hL).mono fun _ _ ⟨he, hw⟩ => ⟨_, he, rfl, hw⟩
end Go.Proofs.Ytglncadfmomamaa
