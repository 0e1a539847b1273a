/- The loss of a plan (forecast.loss) and PlanLoss of the program, walked. -/
import Derived.Test.YtglncadfmomamaaEn
import Derived.Test.YtglncadfmomamaaRnd
namespace Go.Proofs.Ytglncadfmomamaa
set_option linter.unusedVariables false
set_option linter.unusedSimpArgs false
open Go.RowKit Go.Shelf
attribute [local go_sem] Oper.semAt_some
/-- The loss of some repairs of a plan, by their places. -/
def lossOn (ls : List UInt8) (J : List Jb) (P : List Int) : List Nat → Int
  | [] => 0
  | k :: r => (jAt J (P.getD k 0)).w * fcEnd ls (workTo J P (k + 1)) + lossOn ls J P r
theorem lossOn_snoc (ls : List UInt8) (J : List Jb) (P : List Int) (r : List Nat) (k : Nat) : lossOn ls J P (r ++ [k]) = lossOn ls J P r + (jAt J (P.getD k 0)).w * fcEnd ls (workTo J P (k + 1)) := by
  induction r with
  | nil => simp [lossOn]
  | cons j r ih => rw [List.cons_append, lossOn, lossOn, ih]; omega
def lossV (ls : List UInt8) (J : List Jb) (P : List Int) : Int := lossOn ls J P (List.range P.length)
theorem fcEnd_bd (ls : List UInt8) (x : Int) (hls : ls.length ≤ 30) : -1 ≤ fcEnd ls x ∧ fcEnd ls x ≤ 30 := by
  unfold fcEnd
  split
  · rename_i h
    have := (fcDayN_spec ls x.toNat (by omega)).2.1
    omega
  · omega
/-- Repairs: what the walk wants of them. -/
def JobsFit (J : List Jb) : Prop := ∀ k, k < J.length → 1 ≤ (jAt J (k : Nat)).d ∧ (jAt J (k : Nat)).d ≤ 9 ∧ 1 ≤ (jAt J (k : Nat)).w ∧ (jAt J (k : Nat)).w ≤ 9
theorem lossOn_bd {ls : List UInt8} {J : List Jb} {P : List Int} (hls : ls.length ≤ 30) (hJ : JobsFit J) (hP : ∀ k, k < P.length → 0 ≤ P.getD k 0 ∧ P.getD k 0 < J.length) (h0 : 0 < J.length) (r : List Nat) : -270 * (r.length : Int) ≤ lossOn ls J P r ∧ lossOn ls J P r ≤ 270 * r.length := by
  induction r with
  | nil => simp [lossOn]
  | cons k r ih =>
    rw [lossOn, List.length_cons]
    have hb := fcEnd_bd ls (workTo J P (k + 1)) hls
    have hw : 1 ≤ (jAt J (P.getD k 0)).w ∧ (jAt J (P.getD k 0)).w ≤ 9 := by
      have hq : 0 ≤ P.getD k 0 ∧ P.getD k 0 < J.length := by
        rcases Nat.lt_or_ge k P.length with h | h
        · exact hP k h
        · rw [List.getD, List.getElem?_eq_none h]; simp; exact h0
      obtain ⟨q, hqe⟩ := Int.eq_ofNat_of_zero_le hq.1
      rw [hqe] at hq ⊢
      have := hJ q (by omega)
      exact ⟨this.2.2.1, this.2.2.2⟩
    generalize (jAt J (P.getD k 0)).w = x at hw
    generalize fcEnd ls (workTo J P (k + 1)) = y at hb
    have h1 : x * y ≤ 270 := by
      have := Int.mul_le_mul_of_nonneg_left hb.2 (show 0 ≤ x by omega)
      omega
    have h2 : -270 ≤ x * y := by
      have := Int.mul_le_mul_of_nonneg_left hb.1 (show 0 ≤ x by omega)
      omega
    push_cast
    omega
theorem ends_any (m z n c np cP : Nat) (AJ AP : Option Addr) (w : World) :
    Calls Try.prog 75 #[.agg #[.int .u32 m, .int .i64 z], .slice AJ n c, .slice AP np cP] w fun e w' =>
      e = .returned (.func (.func 90) #[] #[.pointer (some ⟨w.heap.size + 2, 0, none⟩), .pointer (some ⟨w.heap.size + 1, 0, none⟩), .pointer (some ⟨w.heap.size, 0, none⟩)]) ∧
      w' = ((w.alloc (.cells #[.int .u32 m, .int .i64 z] 64)).alloc (.cells #[.slice AJ n c] 25)).alloc (.cells #[.slice AP np cP] 33) := by
  go_enter Try.func75, Try.ntmps75
  go_wp2_with fail
  go_ret
  exact ⟨rfl, rfl⟩
theorem box_step {S : Nat → Prop} {W w : World} {X : Nat} {v0 : Value} (v : Value) (hS : ¬ S X) (hc : W.cell? ⟨X, 0, none⟩ = some v0) (hf : W.frozen? ⟨X, 0, none⟩ = false) (hB : Below w.heap.size w W) (hX : w.heap.size ≤ X) (n : Nat) :
    KeepsOthers W ((W.setCell ⟨X, 0, none⟩ v).drewN n) ∧ KeepS S W ((W.setCell ⟨X, 0, none⟩ v).drewN n) ∧ ((W.setCell ⟨X, 0, none⟩ v).drewN n).cell? ⟨X, 0, none⟩ = some v ∧ ((W.setCell ⟨X, 0, none⟩ v).drewN n).frozen? ⟨X, 0, none⟩ = false ∧
    (∀ p : Addr, p.block ≠ X → ((W.setCell ⟨X, 0, none⟩ v).drewN n).cell? p = W.cell? p) ∧ Below w.heap.size w ((W.setCell ⟨X, 0, none⟩ v).drewN n) := by
  have hk := KeepsOthers.setCell W ⟨X, 0, none⟩ v
  refine ⟨⟨hk.size, hk.same⟩, (KeepS.refl S W).set (p := ⟨X, 0, none⟩) hS v, World.cell?_setCell_same' _ _ _ (by rw [hc]; rfl), (World.frozen?_setCell _ _ _ _).trans hf, fun b hb => ?_, below_drewN (hB.setCell (p := ⟨X, 0, none⟩) hX _) n⟩
  show (W.setCell ⟨X, 0, none⟩ v).cell? _ = _
  unfold World.cell?
  rw [Below.heap_setCell _ _ _ _ (by simpa using hb)]
set_option maxRecDepth 100000 in
set_option maxHeartbeats 4000000 in
theorem loss_any (ls : List UInt8) (AP AJ : Option Addr) (cP c : Nat) (J : List Jb) (P : List Int) (hls : ls.length ≤ 30) (hfit : PlanFit J P) (hJf : JobsFit J) (lo : Nat) (w : World) (hJ : Jbs w w.heap.size AJ J) (hP : Iv w lo w.heap.size AP P) :
    Calls Try.prog 64 #[.agg #[.int .u32 (maskL ls), .int .i64 ls.length], .slice AJ J.length c, .slice AP P.length cP] w fun e w' => e = .returned (.int .i64 (lossV ls J P)) ∧ Below w.heap.size w w' := by
  obtain ⟨n, hn⟩ : ∃ n, n = J.length := ⟨_, rfl⟩
  obtain ⟨np, hnp⟩ : ∃ n, n = P.length := ⟨_, rfl⟩
  obtain ⟨m, hm⟩ : ∃ m, m = maskL ls := ⟨_, rfl⟩
  obtain ⟨z, hz⟩ : ∃ z, z = ls.length := ⟨_, rfl⟩
  have Hn := Lib.hid hn
  have Hnp := Lib.hid hnp
  have Hm := Lib.hid hm
  have Hz := Lib.hid hz
  have Hfit := Lib.hid hfit
  have HJf := Lib.hid hJf
  have HJ := Lib.hid hJ
  have HP := Lib.hid hP
  have Hls := Lib.hid hls
  rw [← hm, ← hz, ← hn, ← hnp]
  clear hn hnp hm hz hfit hJf hJ hP hls
  refine (callsIn_wide (n := 6)).1 ?_
  refine callsIn_of_wp_marks Try.func64 rfl trivial ?_ rfl
  simp only [Try.ntmps64, List.size_toArray, List.length_cons, List.length_nil, Nat.reduceAdd, Nat.reduceSub, Array.replicate_succ, Array.replicate_zero, List.push_toArray, List.append_toArray, List.nil_append, List.cons_append]
  gi_wp2
  refine ⟨trivial, (callsIn_wide.2 (ends_any m z n c np cP AJ AP _)).mono ?_⟩
  rintro e w' ⟨rfl, rfl⟩
  gi_wp2
  obtain ⟨W0, hW0⟩ : ∃ W0, ((((((w.alloc (Obj.cells #[.int .u32 m, .int .i64 z] 64)).alloc (Obj.cells #[.slice AJ n c] 25)).alloc (Obj.cells #[.int .i64 0] 3)).alloc (Obj.cells #[.int .u32 m, .int .i64 z] 64)).alloc (Obj.cells #[.slice AJ n c] 25)).alloc (Obj.cells #[.slice AP np cP] 33)) = W0 := ⟨_, rfl⟩
  have hs0 : W0.heap.size = w.heap.size + 6 := by rw [← hW0]; simp
  have hB0 : Below w.heap.size w W0 := by
    rw [← hW0]
    exact ((((((Below.refl _ w).alloc (Nat.le_refl _) _).alloc (by simp) _).alloc (by simp; omega) _).alloc (by simp; omega) _).alloc (by simp; omega) _).alloc (by simp; omega) _
  have r1 : Row W0 (w.heap.size + 1) 25 [.slice AJ n c] := by
    rw [← hW0]; exact ((((Row.newS _ _ _ (by simp) rfl).alloc _).alloc _).alloc _).alloc _
  have r2 : Row W0 (w.heap.size + 2) 3 [.int .i64 0] := by
    rw [← hW0]; exact (((Row.newS _ _ _ (by simp) rfl).alloc _).alloc _).alloc _
  have r3 : Row W0 (w.heap.size + 3) 64 [.int .u32 m, .int .i64 z] := by
    rw [← hW0]; exact ((Row.newS _ _ _ (by simp) rfl).alloc _).alloc _
  have r4 : Row W0 (w.heap.size + 4) 25 [.slice AJ n c] := by
    rw [← hW0]; exact (Row.newS _ _ _ (by simp) rfl).alloc _
  have r5 : Row W0 (w.heap.size + 5) 33 [.slice AP np cP] := by
    rw [← hW0]; exact Row.newS _ _ _ (by simp) rfl
  try simp only [World.size_alloc]
  rw [hW0]
  have hE : EndsAt (fun b => b < W0.heap.size ∧ b ≠ w.heap.size + 2) W0 (w.heap.size + 5) (w.heap.size + 4) (w.heap.size + 3) AP cP P AJ c J ls :=
    ⟨⟨by omega, by omega, by omega⟩, by rw [← Hnp.out]; exact r5.cellI rfl, by rw [← Hn.out]; exact r4.cellI rfl, by rw [← Hm.out]; exact r3.cellI rfl, by rw [← Hz.out]; exact r3.cellI rfl,
      (HP.out.below hB0 (Nat.le_refl _)).inS (fun b _ hb => by omega), (HJ.out.below hB0).inS (fun b hb => by omega)⟩
  clear hW0 r3 r4 r5
  refine wpIn_rangeFunc_ownF rfl (by omega) (gf := 90) (lb := #[.pointer (some ⟨w.heap.size + 5, 0, none⟩), .pointer (some ⟨w.heap.size + 4, 0, none⟩), .pointer (some ⟨w.heap.size + 3, 0, none⟩)]) (by rfl) trivial (enters_of Try.func90 (by kernel_rfl) rfl)
    (ends1 _ _ _ _ _ _ _ J P ls Hls.out Hfit.out _ W0 (fun b hb => hb.1) hE) (fun h k => h.trans k) (keepS_b (fun b hb => hb.1)) (Below.refl _ _) (fun _ => rfl)
    (fun pre W => (W.cell? ⟨w.heap.size + 2, 0, none⟩ = some (.int .i64 (lossOn ls J P pre)) ∧ W.frozen? ⟨w.heap.size + 2, 0, none⟩ = false ∧ W.cell? ⟨w.heap.size + 1, 0, none⟩ = some (.slice AJ n c)) ∧ Below w.heap.size w W)
    (fun _ _ _ => False)
    (OwnFrom.and (Own.from (fun s A B row hs hg hr => ⟨cell_kept hs.1 hg hr, (frozen_kept hs.1 hg hr).trans hs.2.1, cell_kept hs.2.2 hg hr⟩) _) (ownFrom_below (Nat.le_refl _) (by omega)))
    (fun _ _ _ _ _ hs _ _ => hs)
    ⟨⟨r2.cellI rfl, r2.frozen 0, r1.cellI rfl⟩, hB0⟩
    (fun k => { tmps := #[.agg #[.int .u32 m, .int .i64 z], .slice AJ n c, .slice AP np cP, .pointer (some ⟨w.heap.size, 0, none⟩), .pointer (some ⟨w.heap.size + 1, 0, none⟩), undef, .int .i64 0, .pointer (some ⟨w.heap.size + 1 + 1, 0, none⟩), .int .i64 (P.getD k 0), .int .i64 (fcEnd ls (workTo J P (k + 1))), .agg #[.int .u32 m, .int .i64 z], .slice AJ n c, .slice AP np cP,
      .func (.func 90) #[] #[.pointer (some ⟨w.heap.size + 5, 0, none⟩), .pointer (some ⟨w.heap.size + 4, 0, none⟩), .pointer (some ⟨w.heap.size + 3, 0, none⟩)], .int .i64 (P.getD k 0), .int .i64 (fcEnd ls (workTo J P (k + 1))), undef, undef, undef, undef, undef, undef, undef, undef, undef, undef], defers := [] }) ?assign ?body ?done ?stop
  case assign =>
    intro l x W K hK
    unfold endsOf
    gi_wp2
    exact hK
  case body =>
    rintro l pre k W ⟨⟨hc, hf, hc2⟩, hB⟩ hlen
    have hPJ := Hfit.out.2.1
    have h0n : 0 < n := by have := hPJ 0 (by omega); have := Hn.out; omega
    have hbd := lossOn_bd Hls.out HJf.out hPJ (by have := Hn.out; omega) pre
    have hl6 : pre.length ≤ 6 := by have := Hfit.out.1; omega
    have hsn := Lib.hid (lossOn_snoc ls J P pre k)
    have hq : 0 ≤ P.getD k 0 ∧ P.getD k 0 < n := by
      rcases Nat.lt_or_ge k P.length with h | h
      · have := hPJ k h; have := Hn.out; omega
      · rw [List.getD, List.getElem?_eq_none h]; simp; exact h0n
    obtain ⟨p, hp⟩ : ∃ p, p = P.getD k 0 := ⟨_, rfl⟩
    obtain ⟨e', he'⟩ : ∃ e', e' = fcEnd ls (workTo J P (k + 1)) := ⟨_, rfl⟩
    have heb := fcEnd_bd ls (workTo J P (k + 1)) Hls.out
    obtain ⟨s, hs⟩ : ∃ s, s = lossOn ls J P pre := ⟨_, rfl⟩
    rw [← hp, ← he', ← hs] at hsn
    rw [← hs] at hbd hc
    rw [← hp] at hq
    rw [← he'] at heb
    rw [← hp, ← he']
    obtain ⟨hq0, hqn⟩ := hq
    obtain ⟨q, rfl⟩ := Int.eq_ofNat_of_zero_le hq0
    have hqn : q < n := by omega
    obtain ⟨bj, oj, rfl, hbj, hcj⟩ := (HJ.out.below hB) (by rw [← Hn.out]; omega)
    obtain ⟨y, hy⟩ : ∃ y, J[q]? = some y := ⟨J[q]'(by rw [← Hn.out]; exact hqn), List.getElem?_eq_getElem _⟩
    have hjat : jAt J (q : Int) = y := by unfold jAt; rw [Int.toNat_natCast, List.getD, hy]; rfl
    have hyw := HJf.out q (by rw [← Hn.out]; exact hqn)
    rw [hjat] at hyw hsn
    have hd1 := (hcj q y hy).2
    obtain ⟨x, hx⟩ : ∃ x, x = y.w := ⟨_, rfl⟩
    rw [← hx] at hyw hd1 hsn
    have hm1 : x * e' ≤ 270 := by
      have := Int.mul_le_mul_of_nonneg_left heb.2 (show 0 ≤ x by omega)
      omega
    have hm2 : -270 ≤ x * e' := by
      have := Int.mul_le_mul_of_nonneg_left heb.1 (show 0 ≤ x by omega)
      omega
    have hw1 : IntKind.i64.wrap (x * e') = x * e' := IntWalk.i64_in _ (by omega)
    have hw2 : IntKind.i64.wrap (s + x * e') = s + x * e' := IntWalk.i64_in _ (by omega)
    have hst := box_step (S := fun b => b < W0.heap.size ∧ b ≠ w.heap.size + 2) (.int .i64 (s + x * e')) (fun h => h.2 rfl) hc hf hB (by omega) 1
    clear hx hy hjat hcj hp he' hs hPJ hbd heb hm1 hm2 hyw r1 r2 hE
    have hmix : Try.prog.follows .mixedOrders = true := by kernel_rfl
    gi_wp2
    refine region_round (fun w' => w'.cell? ⟨w.heap.size + 1, 0, none⟩ = some (.slice (some ⟨bj, oj, none⟩) n c) ∧ w'.cell? ⟨bj, oj + q * 2 + 1, none⟩ = some (.int .i64 x)) (by kernel_rfl) (by kernel_rfl) (by rintro ⟨a, w, h⟩; exact h) ⟨hc2, hd1⟩ (fun hHeld => ?_)
    refine wpAnyH_take (i := 1) (v := .slice (some ⟨bj, oj, none⟩) n c) rfl (by kernel_rfl) (by kernel_rfl) (by kernel_rfl) (fun _ _ _ h => h) (Or.inl ⟨by kernel_rfl, fun w hSw => by (try dsimp only at hSw); go_simp⟩) hHeld ?_
    try simp only [Act.put, List.setIfInBounds_toArray, List.set_cons_zero, List.set_cons_succ]
    refine wpAnyH_take (i := 2) (v := .int .i64 q) rfl (by kernel_rfl) (by kernel_rfl) (by kernel_rfl) (fun _ _ _ h => h) (Or.inl ⟨by kernel_rfl, fun w hSw => by (try dsimp only at hSw); go_simp⟩) hHeld ?_
    try simp only [Act.put, List.setIfInBounds_toArray, List.set_cons_zero, List.set_cons_succ]
    refine wpAnyH_take (i := 3) (v := .pointer (some ⟨bj, oj + q * 2, none⟩)) rfl (by kernel_rfl) (by kernel_rfl) (by kernel_rfl) (fun _ _ _ h => h) (Or.inl ⟨by kernel_rfl, fun w hSw => by (try dsimp only at hSw); go_simp⟩) hHeld ?_
    try simp only [Act.put, List.setIfInBounds_toArray, List.set_cons_zero, List.set_cons_succ]
    refine wpAnyH_take (i := 4) (v := .pointer (some ⟨bj, oj + q * 2 + 1, none⟩)) rfl (by kernel_rfl) (by kernel_rfl) (by kernel_rfl) (fun _ _ _ h => h) (Or.inl ⟨by kernel_rfl, fun w hSw => by (try dsimp only at hSw); go_simp⟩) hHeld ?_
    try simp only [Act.put, List.setIfInBounds_toArray, List.set_cons_zero, List.set_cons_succ]
    refine wpAnyH_take (i := 5) (v := .int .i64 x) rfl (by kernel_rfl) (by kernel_rfl) (by kernel_rfl) (fun _ _ _ h => h) (Or.inl ⟨by kernel_rfl, fun w hSw => by (try dsimp only at hSw); go_simp⟩) hHeld ?_
    try simp only [Act.put, List.setIfInBounds_toArray, List.set_cons_zero, List.set_cons_succ]
    refine wpAnyH_take (i := 6) (v := .int .i64 e') rfl (by kernel_rfl) (by kernel_rfl) (by kernel_rfl) (fun _ _ _ h => h) (Or.inl ⟨by kernel_rfl, fun w hSw => by (try dsimp only at hSw); go_simp⟩) hHeld ?_
    try simp only [Act.put, List.setIfInBounds_toArray, List.set_cons_zero, List.set_cons_succ]
    refine wpAnyH_take (i := 7) (v := .int .i64 (x * e')) rfl (by kernel_rfl) (by kernel_rfl) (by kernel_rfl) (fun _ _ _ h => h) (Or.inl ⟨by kernel_rfl, fun w hSw => by (try dsimp only at hSw); go_simp⟩) hHeld ?_
    try simp only [Act.put, List.setIfInBounds_toArray, List.set_cons_zero, List.set_cons_succ]
    refine wpAnyH_ready (rs := [0]) (by kernel_rfl) (by simp) ?_
    refine AllReadyH.cons rfl (fun K hK => ?_) AllReadyH.nil
    go_simp
    refine hK.out _ _ ⟨hc2, hd1⟩ (fun hHeld => ?_)
    clear hK
    try simp only [Act.put, List.setIfInBounds_toArray, List.set_cons_zero, List.set_cons_succ]
    refine wpAnyH_take (i := 8) (v := .int .i64 (s + x * e')) rfl (by kernel_rfl) (by kernel_rfl) (by kernel_rfl) (fun _ _ _ h => h) (Or.inl ⟨by kernel_rfl, fun w hSw => by (try dsimp only at hSw); go_simp⟩) hHeld ?_
    try simp only [Act.put, List.setIfInBounds_toArray, List.set_cons_zero, List.set_cons_succ]
    refine wpAnyH_ready (rs := [9]) (by kernel_rfl) (by simp) ?_
    refine AllReadyH.cons rfl (fun K hK => ?_) AllReadyH.nil
    go_simp
    obtain ⟨b1, b2, b3, b4, b5, b6⟩ := hst
    refine hK.out _ _ ⟨(b5 _ (by show w.heap.size + 1 ≠ _; omega)).trans hc2, (b5 _ (by show bj ≠ _; omega)).trans hd1⟩ (fun hHeld => ?_)
    refine wpAnyH_done (by kernel_rfl) ?_ _
    exact ⟨b1, b2, ⟨by rw [hsn.out]; exact b3, b4, (b5 _ (by show w.heap.size + 1 ≠ _; omega)).trans hc2⟩, b6⟩
  case done =>
    rintro D ys W hD hys ⟨⟨hc, hf, hc2⟩, hB⟩ hK
    gi_wp2
    refine ⟨by simp, .inl ⟨_, _, rfl, run_takeDeferred hK, ?_⟩⟩
    exact ⟨_, results_tmp rfl _ _ _, by subst hys; rfl, hB.trans (belowK_b (w := w) (Nat.le_refl _) W D _ _ (by omega) hK rfl rfl)⟩
  case stop =>
    rintro D c pre W _ _ h _
    exact h.elim
end Go.Proofs.Ytglncadfmomamaa
