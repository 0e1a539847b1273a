/- Plans, plain and walked: the program's planable. -/
import Derived.Test.YtglncadfmomamaaPv
import Derived.Deep.RegionHeld3
namespace Go.Proofs.Ytglncadfmomamaa
set_option linter.unusedVariables false
set_option linter.unusedSimpArgs false
open Go.RowKit
theorem row2 {w : World} {g : Nat} {t : TypeId} {x y : Value} (h : Row w g t [x, y]) :
    w.cell? ⟨g, 0, none⟩ = some x ∧ w.cell? ⟨g, 1, none⟩ = some y ∧ w.frozen? ⟨g, 0, none⟩ = false ∧ w.frozen? ⟨g, 1, none⟩ = false :=
  ⟨h.cellI rfl, h.cellI rfl, h.frozen 0, h.frozen 1⟩
def planOk (l : List UInt8) (J : List Jb) : Bool := jobsOk J && decide (jDays J ≤ fcAhead l l.length)
def PlanP (n : Nat) (m : Nat) (ok : Bool) (w : World) (e : Ending) (w' : World) : Prop := e = .returned (.tuple #[.agg #[.int .u32 m, .int .i64 n], .bool ok]) ∧ Below w.heap.size w w'
set_option maxHeartbeats 8000000 in
set_option maxRecDepth 100000 in
theorem planable_f (s : ByteArray) (A : Option Addr) (c : Nat) (J : List Jb) (hs : s.size ≤ 30) (hv : fcOk s.data.toList = true) (hJn : J.length ≤ 1048576) (w : World) (hJ : Jbs w w.heap.size A J) :
    Calls Try.prog 57 #[.string s, .slice A J.length c] w (PlanP s.size (maskL s.data.toList) (planOk s.data.toList J) w) := by
  have H := Lib.hid (forecastOf_yes s hs hv)
  have hlen : s.data.toList.length = s.size := by simp
  have HA := Lib.hid (ahead_fc s.data.toList (by omega))
  rw [hlen] at HA
  obtain ⟨j, hj⟩ : ∃ j, j = jobsOk J := ⟨_, rfl⟩
  obtain ⟨d, hd⟩ : ∃ d, d = jDays J := ⟨_, rfl⟩
  obtain ⟨a, ha⟩ : ∃ a : Nat, a = fcAhead s.data.toList s.size := ⟨_, rfl⟩
  obtain ⟨m, hm⟩ : ∃ m : Nat, m = maskL s.data.toList := ⟨_, rfl⟩
  have HJ := Lib.hid (fun w' (h : Jbs w' w'.heap.size A J) => implJobs A c J hJn w' h)
  rw [← hj] at HJ
  have HD := Lib.hid (fun (hok : jobsOk J = true) w' (h : Jbs w' w'.heap.size A J) => daysOf_any A c J hok w' h)
  rw [← hd, ← hj] at HD
  have HA2 := HA.out s.size (by omega) (by omega)
  rw [Int.toNat_natCast, ← ha, ← hm] at HA2
  replace HA2 := Lib.hid HA2
  rw [← hm] at H
  have hok : planOk s.data.toList J = (j && decide (d ≤ a)) := by rw [planOk, hlen, hj, hd, ha]
  rw [hok, ← hm]
  obtain ⟨n, hn⟩ : ∃ n, n = J.length := ⟨_, rfl⟩
  rw [← hn] at HJ HD hJn ⊢
  obtain ⟨z, hz⟩ : ∃ z, z = s.size := ⟨_, rfl⟩
  rw [← hz] at HA2 hs H ⊢
  clear hok hn hm hd hj ha hlen HA hv hz
  go_enter Try.func57, Try.ntmps57
  go_wp2_with fail
  refine (H.out _).mono ?_
  rintro e w1 ⟨rfl, hb⟩
  have r4 := (Row.newS w 64 #[.int .u32 0, .int .i64 0] rfl rfl).below hb (by simp)
  have hb1 : Below w.heap.size w w1 := ((Below.refl _ _).alloc (Nat.le_refl _) _).trans (hb.mono (by simp))
  have hlt : w.heap.size < w1.heap.size := by have := hb.size; simp at this; omega
  clear hb
  go_wp2_with fail
  have r6 := Row.newS w1 64 #[.int .u32 m, .int .i64 z] rfl rfl
  replace r4 := r4.alloc (Obj.cells #[.int .u32 m, .int .i64 z] 64)
  have hbW := hb1.alloc hb1.size (Obj.cells #[.int .u32 m, .int .i64 z] 64)
  generalize w1.alloc (Obj.cells #[.int .u32 m, .int .i64 z] 64) = W at r4 r6 hbW ⊢
  obtain ⟨f0, f1, f2, f3⟩ := row2 r4
  obtain ⟨k0, k1, k2, k3⟩ := row2 r6
  have hwW := hbW.size
  have h4W := r4.lt
  have h6W := r6.lt
  have Hc : Hid (∀ wA, Below W.drew.heap.size W.drew wA → Row wA w.heap.size 64 [.int .u32 0, .int .i64 0] ∧ Row wA w1.heap.size 64 [.int .u32 m, .int .i64 z] ∧ Below w.heap.size w wA ∧ Jbs wA wA.heap.size A J ∧ w.heap.size < wA.heap.size ∧ w1.heap.size < wA.heap.size) := fun wA h => by
    have h' : Below W.heap.size W wA := ⟨h.os, h.tape, h.output, h.size, h.block⟩
    exact ⟨r4.below h' h4W, r6.below h' h6W, hbW.trans (h'.mono hwW), ((hJ.below hbW).below (h'.mono hwW)).more (Nat.le_trans hwW h'.size), Nat.lt_of_lt_of_le h4W h'.size, Nat.lt_of_lt_of_le h6W h'.size⟩
  have Hd : Hid (∀ wA wB, (Row wA w.heap.size 64 [.int .u32 0, .int .i64 0] ∧ Row wA w1.heap.size 64 [.int .u32 m, .int .i64 z] ∧ Below w.heap.size w wA ∧ Jbs wA wA.heap.size A J ∧ w.heap.size < wA.heap.size ∧ w1.heap.size < wA.heap.size) → Below wA.heap.size wA wB →
      Row wB w.heap.size 64 [.int .u32 0, .int .i64 0] ∧ Row wB w1.heap.size 64 [.int .u32 m, .int .i64 z] ∧ Below w.heap.size w wB ∧ Jbs wB wB.heap.size A J ∧ w.heap.size < wB.heap.size ∧ w1.heap.size < wB.heap.size) := fun wA wB ⟨a4, a6, ab, aj, al, am⟩ h =>
    ⟨a4.below h al, a6.below h am, ab.trans (h.mono ab.size), (aj.below h).more h.size, Nat.lt_of_lt_of_le al h.size, Nat.lt_of_lt_of_le am h.size⟩
  have HJW := Lib.hid (show Jbs W.drew W.drew.heap.size A J from (hJ.below hbW).more hwW)
  have HP : Hid (∀ wA : World, Below w.heap.size w wA → Row wA w.heap.size 64 [.int .u32 0, .int .i64 0] → Below w.heap.size w ((wA.setCell ⟨w.heap.size, 0, none⟩ (.int .u32 m)).setCell ⟨w.heap.size, 1, none⟩ (.int .i64 z)) ∧ Row ((wA.setCell ⟨w.heap.size, 0, none⟩ (.int .u32 m)).setCell ⟨w.heap.size, 1, none⟩ (.int .i64 z)) w.heap.size 64 [.int .u32 m, .int .i64 z]) := fun wA h hr =>
    ⟨(h.setCell (Nat.le_refl _) _).setCell (Nat.le_refl _) _, (hr.set 0 _).set 1 _⟩
  have HK : Hid (∀ wA : World, Row wA w1.heap.size 64 [.int .u32 m, .int .i64 z] → ((wA.setCell ⟨w.heap.size, 0, none⟩ (.int .u32 m)).setCell ⟨w.heap.size, 1, none⟩ (.int .i64 z)).cell? ⟨w1.heap.size, 0, none⟩ = some (.int .u32 m) ∧ ((wA.setCell ⟨w.heap.size, 0, none⟩ (.int .u32 m)).setCell ⟨w.heap.size, 1, none⟩ (.int .i64 z)).cell? ⟨w1.heap.size, 1, none⟩ = some (.int .i64 z)) := fun wA hr => by
    have := (hr.far (p := ⟨w.heap.size, 0, none⟩) (by simp; omega) (.int .u32 m)).far (p := ⟨w.heap.size, 1, none⟩) (by simp; omega) (.int .i64 z)
    exact ⟨this.cellI rfl, this.cellI rfl⟩
  clear r4 r6 hbW
  cases j with
  | false =>
    refine wp_region_held_drew (S := fun w' => w'.cell? ⟨w1.heap.size, 0, none⟩ = some (.int .u32 m) ∧ w'.cell? ⟨w1.heap.size, 1, none⟩ = some (.int .i64 z)) (by kernel_rfl) ⟨k0, k1⟩ (fun hHeld => ?_)
    refine wpAnyH_take (i := 0) (v := .agg #[.int .u32 m, .int .i64 z]) rfl (by kernel_rfl) (by kernel_rfl) (by kernel_rfl) (fun _ _ _ h => h) (Or.inl ⟨by kernel_rfl, fun w hSw => by (try dsimp only at hSw); go_simp⟩) hHeld ?_
    simp only [Act.put, List.setIfInBounds_toArray, List.set_cons_zero, List.set_cons_succ]
    refine wpAnyH_take (i := 1) (v := .bool true) rfl (by kernel_rfl) (by kernel_rfl) (by kernel_rfl) (fun _ _ _ h => h) (Or.inl ⟨by kernel_rfl, fun w hSw => by (try dsimp only at hSw); go_simp⟩) hHeld ?_
    simp only [Act.put, List.setIfInBounds_toArray, List.set_cons_zero, List.set_cons_succ]
    refine wpAnyH_take (i := 2) (v := .bool true) rfl (by kernel_rfl) (by kernel_rfl) (by kernel_rfl) (fun _ _ _ h => h) (Or.inl ⟨by kernel_rfl, fun w hSw => by (try dsimp only at hSw); go_simp⟩) hHeld ?_
    simp only [Act.put, List.setIfInBounds_toArray, List.set_cons_zero, List.set_cons_succ]
    refine wpAnyH_take (i := 3) (v := .slice A n c) rfl (by kernel_rfl) (by kernel_rfl) (by kernel_rfl) (fun _ _ _ h => h) (Or.inl ⟨by kernel_rfl, fun w hSw => by (try dsimp only at hSw); go_simp⟩) hHeld ?_
    simp only [Act.put, List.setIfInBounds_toArray, List.set_cons_zero, List.set_cons_succ]
    refine wpAnyH_ready (rs := [4]) (by kernel_rfl) (by simp) ?_
    refine AllReadyH.cons rfl (fun K hK => ?_) AllReadyH.nil
    go_simp
    go_at_call 19
    refine (HJ.out _ HJW.out).mono ?_
    rintro e wA ⟨rfl, hbA⟩
    obtain ⟨g4, g6, gb, gj, gl, gm⟩ := Hc.out wA hbA
    obtain ⟨q0, q1, q2, q3⟩ := row2 g4
    obtain ⟨p0, p1, p2, p3⟩ := row2 g6
    obtain ⟨p4, p5⟩ := HK.out wA g6
    show K _ wA
    refine hK.out _ _ ⟨p0, p1⟩ (fun hHeld => ?_)
    clear hK
    try simp only [Act.put, List.setIfInBounds_toArray, List.set_cons_zero, List.set_cons_succ]
    refine wpAnyH_take (i := 5) (v := .bool false) rfl (by kernel_rfl) (by kernel_rfl) (by kernel_rfl) (fun _ _ _ h => h) (Or.inl ⟨by kernel_rfl, fun w hSw => by (try dsimp only at hSw); go_simp⟩) hHeld ?_
    simp only [Act.put, List.setIfInBounds_toArray, List.set_cons_zero, List.set_cons_succ]
    refine wpAnyH_take (i := 6) (v := .bool false) rfl (by kernel_rfl) (by kernel_rfl) (by kernel_rfl) (fun _ _ _ h => h) (Or.inl ⟨by kernel_rfl, fun w hSw => by (try dsimp only at hSw); go_simp⟩) hHeld ?_
    simp only [Act.put, List.setIfInBounds_toArray, List.set_cons_zero, List.set_cons_succ]
    refine wpAnyH_take (i := 7) (v := undef) rfl (by kernel_rfl) (by kernel_rfl) (by kernel_rfl) (fun _ _ _ h => h) (Or.inr ⟨by kernel_rfl, rfl⟩) hHeld ?_
    simp only [Act.put, List.setIfInBounds_toArray, List.set_cons_zero, List.set_cons_succ]
    refine wpAnyH_take (i := 8) (v := undef) rfl (by kernel_rfl) (by kernel_rfl) (by kernel_rfl) (fun _ _ _ h => h) (Or.inr ⟨by kernel_rfl, rfl⟩) hHeld ?_
    simp only [Act.put, List.setIfInBounds_toArray, List.set_cons_zero, List.set_cons_succ]
    refine wpAnyH_take (i := 9) (v := undef) rfl (by kernel_rfl) (by kernel_rfl) (by kernel_rfl) (fun _ _ _ h => h) (Or.inr ⟨by kernel_rfl, rfl⟩) hHeld ?_
    simp only [Act.put, List.setIfInBounds_toArray, List.set_cons_zero, List.set_cons_succ]
    refine wpAnyH_take (i := 10) (v := undef) rfl (by kernel_rfl) (by kernel_rfl) (by kernel_rfl) (fun _ _ _ h => h) (Or.inr ⟨by kernel_rfl, rfl⟩) hHeld ?_
    simp only [Act.put, List.setIfInBounds_toArray, List.set_cons_zero, List.set_cons_succ]
    refine wpAnyH_take (i := 11) (v := undef) rfl (by kernel_rfl) (by kernel_rfl) (by kernel_rfl) (fun _ _ _ h => h) (Or.inr ⟨by kernel_rfl, rfl⟩) hHeld ?_
    simp only [Act.put, List.setIfInBounds_toArray, List.set_cons_zero, List.set_cons_succ]
    refine wpAnyH_take (i := 12) (v := undef) rfl (by kernel_rfl) (by kernel_rfl) (by kernel_rfl) (fun _ _ _ h => h) (Or.inr ⟨by kernel_rfl, rfl⟩) hHeld ?_
    simp only [Act.put, List.setIfInBounds_toArray, List.set_cons_zero, List.set_cons_succ]
    refine wpAnyH_take (i := 13) (v := undef) rfl (by kernel_rfl) (by kernel_rfl) (by kernel_rfl) (fun _ _ _ h => h) (Or.inr ⟨by kernel_rfl, rfl⟩) hHeld ?_
    simp only [Act.put, List.setIfInBounds_toArray, List.set_cons_zero, List.set_cons_succ]
    refine wpAnyH_take (i := 14) (v := .bool false) rfl (by kernel_rfl) (by kernel_rfl) (by kernel_rfl) (fun _ _ _ h => h) (Or.inl ⟨by kernel_rfl, fun w hSw => by (try dsimp only at hSw); go_simp⟩) hHeld ?_
    simp only [Act.put, List.setIfInBounds_toArray, List.set_cons_zero, List.set_cons_succ]
    refine wpAnyH_ready (rs := [15]) (by kernel_rfl) (by simp) ?_
    refine AllReadyH.cons rfl (fun K hK => ?_) AllReadyH.nil
    go_simp
    refine hK.out _ _ ⟨p4, p5⟩ (fun hHeld => ?_)
    clear hK
    refine wpAnyH_ready (rs := [16]) (by kernel_rfl) (by simp) ?_
    refine AllReadyH.cons rfl (fun K hK => ?_) AllReadyH.nil
    go_simp
    refine hK.out _ _ ⟨p4, p5⟩ (fun hHeld => ?_)
    clear hK
    refine wpAnyH_done (by kernel_rfl) ?_ _
    obtain ⟨hbf, hrf⟩ := HP.out wA gb g4
    go_wp2_with fail
    exact ret_row_tmp rfl w.heap.size 64 [.int .u32 m, .int .i64 z] _ rfl hrf Try.underlying64 rfl (by kernel_rfl) rfl ⟨rfl, hbf⟩
  | true =>
    have HD2 := Lib.hid (HD.out rfl)
    refine wp_region_held_drew (S := fun w' => w'.cell? ⟨w1.heap.size, 0, none⟩ = some (.int .u32 m) ∧ w'.cell? ⟨w1.heap.size, 1, none⟩ = some (.int .i64 z)) (by kernel_rfl) ⟨k0, k1⟩ (fun hHeld => ?_)
    refine wpAnyH_take (i := 0) (v := .agg #[.int .u32 m, .int .i64 z]) rfl (by kernel_rfl) (by kernel_rfl) (by kernel_rfl) (fun _ _ _ h => h) (Or.inl ⟨by kernel_rfl, fun w hSw => by (try dsimp only at hSw); go_simp⟩) hHeld ?_
    try simp only [Act.put, List.setIfInBounds_toArray, List.set_cons_zero, List.set_cons_succ]
    refine wpAnyH_take (i := 1) (v := .bool true) rfl (by kernel_rfl) (by kernel_rfl) (by kernel_rfl) (fun _ _ _ h => h) (Or.inl ⟨by kernel_rfl, fun w hSw => by (try dsimp only at hSw); go_simp⟩) hHeld ?_
    try simp only [Act.put, List.setIfInBounds_toArray, List.set_cons_zero, List.set_cons_succ]
    refine wpAnyH_take (i := 2) (v := .bool true) rfl (by kernel_rfl) (by kernel_rfl) (by kernel_rfl) (fun _ _ _ h => h) (Or.inl ⟨by kernel_rfl, fun w hSw => by (try dsimp only at hSw); go_simp⟩) hHeld ?_
    try simp only [Act.put, List.setIfInBounds_toArray, List.set_cons_zero, List.set_cons_succ]
    refine wpAnyH_take (i := 3) (v := .slice A n c) rfl (by kernel_rfl) (by kernel_rfl) (by kernel_rfl) (fun _ _ _ h => h) (Or.inl ⟨by kernel_rfl, fun w hSw => by (try dsimp only at hSw); go_simp⟩) hHeld ?_
    try simp only [Act.put, List.setIfInBounds_toArray, List.set_cons_zero, List.set_cons_succ]
    refine wpAnyH_ready (rs := [4]) (by kernel_rfl) (by simp) ?_
    refine AllReadyH.cons rfl (fun K hK => ?_) AllReadyH.nil
    go_simp
    go_at_call 19
    refine (HJ.out _ HJW.out).mono ?_
    rintro e wA ⟨rfl, hbA⟩
    obtain ⟨g4, g6, gb, gj, gl, gm⟩ := Hc.out wA hbA
    obtain ⟨p0, p1, p2, p3⟩ := row2 g6
    show K _ wA
    refine hK.out _ _ ⟨p0, p1⟩ (fun hHeld => ?_)
    clear hK
    refine wpAnyH_take (i := 5) (v := .bool true) rfl (by kernel_rfl) (by kernel_rfl) (by kernel_rfl) (fun _ _ _ h => h) (Or.inl ⟨by kernel_rfl, fun w hSw => by (try dsimp only at hSw); go_simp⟩) hHeld ?_
    try simp only [Act.put, List.setIfInBounds_toArray, List.set_cons_zero, List.set_cons_succ]
    refine wpAnyH_take (i := 6) (v := .bool true) rfl (by kernel_rfl) (by kernel_rfl) (by kernel_rfl) (fun _ _ _ h => h) (Or.inl ⟨by kernel_rfl, fun w hSw => by (try dsimp only at hSw); go_simp⟩) hHeld ?_
    try simp only [Act.put, List.setIfInBounds_toArray, List.set_cons_zero, List.set_cons_succ]
    refine wpAnyH_take (i := 7) (v := .slice A n c) rfl (by kernel_rfl) (by kernel_rfl) (by kernel_rfl) (fun _ _ _ h => h) (Or.inl ⟨by kernel_rfl, fun w hSw => by (try dsimp only at hSw); go_simp⟩) hHeld ?_
    try simp only [Act.put, List.setIfInBounds_toArray, List.set_cons_zero, List.set_cons_succ]
    refine wpAnyH_take (i := 9) (v := .agg #[.int .u32 m, .int .i64 z]) rfl (by kernel_rfl) (by kernel_rfl) (by kernel_rfl) (fun _ _ _ h => h) (Or.inl ⟨by kernel_rfl, fun w hSw => by (try dsimp only at hSw); go_simp⟩) hHeld ?_
    try simp only [Act.put, List.setIfInBounds_toArray, List.set_cons_zero, List.set_cons_succ]
    refine wpAnyH_take (i := 10) (v := .pointer (some ⟨w1.heap.size, 1, none⟩)) rfl (by kernel_rfl) (by kernel_rfl) (by kernel_rfl) (fun _ _ _ h => h) (Or.inl ⟨by kernel_rfl, fun w hSw => by (try dsimp only at hSw); go_simp⟩) hHeld ?_
    try simp only [Act.put, List.setIfInBounds_toArray, List.set_cons_zero, List.set_cons_succ]
    refine wpAnyH_take (i := 11) (v := .int .i64 z) rfl (by kernel_rfl) (by kernel_rfl) (by kernel_rfl) (fun _ _ _ h => h) (Or.inl ⟨by kernel_rfl, fun w hSw => by (try dsimp only at hSw); go_simp⟩) hHeld ?_
    try simp only [Act.put, List.setIfInBounds_toArray, List.set_cons_zero, List.set_cons_succ]
    refine wpAnyH_ready (rs := [8]) (by kernel_rfl) (by simp) ?_
    refine AllReadyH.cons rfl (fun K hK => ?_) AllReadyH.nil
    go_simp
    go_at_call 54
    refine (HD2.out _ gj).mono ?_
    rintro e wB ⟨rfl, hbB⟩
    obtain ⟨g4, g6, gb, gj, gl, gm⟩ := Hd.out wA wB ⟨g4, g6, gb, gj, gl, gm⟩ hbB
    obtain ⟨s0, s1, s2, s3⟩ := row2 g6
    show K _ wB
    refine hK.out _ _ ⟨s0, s1⟩ (fun hHeld => ?_)
    clear hK
    try simp only [Act.put, List.setIfInBounds_toArray, List.set_cons_zero, List.set_cons_succ]
    refine wpAnyH_ready (rs := [12]) (by kernel_rfl) (by simp) ?_
    refine AllReadyH.cons rfl (fun K hK => ?_) AllReadyH.nil
    go_simp
    go_at_call 68
    refine (HA2.out _).mono ?_
    rintro e wC ⟨rfl, hbC⟩
    obtain ⟨g4, g6, gb, gj, gl, gm⟩ := Hd.out wB wC ⟨g4, g6, gb, gj, gl, gm⟩ hbC
    obtain ⟨u0, u1, u2, u3⟩ := row2 g4
    obtain ⟨t0, t1, t2, t3⟩ := row2 g6
    obtain ⟨t4, t5⟩ := HK.out wC g6
    show K _ wC
    refine hK.out _ _ ⟨t0, t1⟩ (fun hHeld => ?_)
    clear hK
    try simp only [Act.put, List.setIfInBounds_toArray, List.set_cons_zero, List.set_cons_succ]
    refine wpAnyH_take (i := 13) (v := .bool (decide (d ≤ (a : Int)))) rfl (by kernel_rfl) (by kernel_rfl) (by kernel_rfl) (fun _ _ _ h => h) (Or.inl ⟨by kernel_rfl, fun w hSw => by (try dsimp only at hSw); go_simp⟩) hHeld ?_
    try simp only [Act.put, List.setIfInBounds_toArray, List.set_cons_zero, List.set_cons_succ]
    refine wpAnyH_take (i := 14) (v := .bool (decide (d ≤ (a : Int)))) rfl (by kernel_rfl) (by kernel_rfl) (by kernel_rfl) (fun _ _ _ h => h) (Or.inl ⟨by kernel_rfl, fun w hSw => by (try dsimp only at hSw); go_simp⟩) hHeld ?_
    try simp only [Act.put, List.setIfInBounds_toArray, List.set_cons_zero, List.set_cons_succ]
    refine wpAnyH_ready (rs := [15]) (by kernel_rfl) (by simp) ?_
    refine AllReadyH.cons rfl (fun K hK => ?_) AllReadyH.nil
    go_simp
    refine hK.out _ _ ⟨t4, t5⟩ (fun hHeld => ?_)
    clear hK
    try simp only [Act.put, List.setIfInBounds_toArray, List.set_cons_zero, List.set_cons_succ]
    refine wpAnyH_ready (rs := [16]) (by kernel_rfl) (by simp) ?_
    refine AllReadyH.cons rfl (fun K hK => ?_) AllReadyH.nil
    go_simp
    refine hK.out _ _ ⟨t4, t5⟩ (fun hHeld => ?_)
    clear hK
    try simp only [Act.put, List.setIfInBounds_toArray, List.set_cons_zero, List.set_cons_succ]
    refine wpAnyH_done (by kernel_rfl) ?_ _
    obtain ⟨hbf, hrf⟩ := HP.out wC gb g4
    go_wp2_with fail
    exact ret_row_tmp rfl w.heap.size 64 [.int .u32 m, .int .i64 z] _ rfl hrf Try.underlying64 rfl (by kernel_rfl) rfl ⟨rfl, hbf⟩
end Go.Proofs.Ytglncadfmomamaa
