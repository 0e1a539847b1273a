/- PlanEnds of the program, walked. -/
import Derived.Test.YtglncadfmomamaaEnds
namespace Go.Proofs.Ytglncadfmomamaa
set_option linter.unusedVariables false
set_option linter.unusedSimpArgs false
open Go.RowKit Go.Shelf
attribute [local go_sem] Oper.semAt_some
/-- The ends, by the places of the plan in whatever order they come. -/
def endsOn (ls : List UInt8) (J : List Jb) (P : List Int) : List Int → List Nat → List Int
  | E, [] => E
  | E, k :: r => endsOn ls J P (E.set (P.getD k 0).toNat (fcEnd ls (workTo J P (k + 1)))) r
theorem endsOn_snoc (ls : List UInt8) (J : List Jb) (P : List Int) (E : List Int) (r : List Nat) (k : Nat) : endsOn ls J P E (r ++ [k]) = (endsOn ls J P E r).set (P.getD k 0).toNat (fcEnd ls (workTo J P (k + 1))) := by
  induction r generalizing E with
  | nil => rfl
  | cons j r ih => rw [List.cons_append, endsOn, ih]; rfl
theorem endsOn_length (ls : List UInt8) (J : List Jb) (P : List Int) (E : List Int) (r : List Nat) : (endsOn ls J P E r).length = E.length := by
  induction r generalizing E with
  | nil => rfl
  | cons j r ih => rw [endsOn, ih, List.length_set]
theorem endsOn_range (ls : List UInt8) (J : List Jb) (P : List Int) : ∀ k, endsOn ls J P (List.replicate J.length 0) (List.range k) = endsTo ls J P k
  | 0 => rfl
  | k + 1 => by rw [List.range_succ, endsOn_snoc, endsOn_range, endsTo]
/-- A store into a block that is the round's own. -/
theorem row_step {S : Nat → Prop} {W w : World} {g : Nat} {t : TypeId} {l : List Value} (q : Nat) (v : Value) (hS : ¬ S g) (hr : Row W g t l) (hB : Below w.heap.size w W) (hg : w.heap.size ≤ g) :
    KeepsOthers W (W.setCell ⟨g, q, none⟩ v) ∧ KeepS S W (W.setCell ⟨g, q, none⟩ v) ∧ Row (W.setCell ⟨g, q, none⟩ v) g t (l.set q v) ∧
    (∀ p : Addr, p.block ≠ g → (W.setCell ⟨g, q, none⟩ v).cell? p = W.cell? p) ∧ Below w.heap.size w (W.setCell ⟨g, q, none⟩ v) := by
  refine ⟨KeepsOthers.setCell W _ v, (KeepS.refl S W).set (p := ⟨g, q, none⟩) hS v, hr.set q v, fun p hp => ?_, hB.setCell (p := ⟨g, q, none⟩) hg _⟩
  show (W.setCell ⟨g, q, none⟩ v).cell? _ = _
  unfold World.cell?
  rw [Below.heap_setCell _ _ _ _ (by simpa using hp)]
theorem row_kept {W W' : World} {row : Option Nat} {g : Nat} {t : TypeId} {l : List Value} (h : Row W g t l) (hg : W.grownBy W' row) (hr : ∀ r, row = some r → ∃ o : Obj, W.heap[r]? = some o ∧ o.isCells = false) : Row W' g t l :=
  h.grown hg (fun e => by
    obtain ⟨o, ho, hc⟩ := hr g e.symm
    unfold Row at h
    rw [h] at ho
    cases ho
    cases hc)
set_option maxRecDepth 100000 in
set_option maxHeartbeats 4000000 in
theorem implPlanEnds (s : ByteArray) (AJ : Option Addr) (c : Nat) (J : List Jb) (AP : Option Addr) (cP : Nat) (P : List Int) (hs : s.size ≤ maxLen) (hJn : J.length ≤ 1048576) (hPn : P.length ≤ 1048576) (w : World) (hJ : Jbs w w.heap.size AJ J) {lo : Nat} (hP : Iv w lo w.heap.size AP P) :
    Calls Try.prog 39 #[.string s, .slice AJ J.length c, .slice AP P.length cP] w (SlPost (endsR s.data.toList J P) w) := by
  have H := Lib.hid (fun w' h1 h2 => planIn_any s AJ AP c cP lo J P hs hJn (by unfold maxLen; omega) w' h1 h2)
  cases hv : planInV s.data.toList J P with
  | false =>
    have hR : Hid (endsR s.data.toList J P [] false) := ⟨by rw [hv]; rfl, hv.symm⟩
    rw [hv] at H
    obtain ⟨n, hn⟩ : ∃ n, n = J.length := ⟨_, rfl⟩
    obtain ⟨np, hnp⟩ : ∃ n, n = P.length := ⟨_, rfl⟩
    rw [← hn, ← hnp] at H
    rw [← hn, ← hnp]
    clear hn hnp hv
    go_enter Try.func39, Try.ntmps39
    go_wp2_with fail
    refine (H.out _ hJ hP).mono ?_
    rintro e w1 ⟨m, hm, rfl, hb⟩
    clear hm
    go_wp2_with fail
    go_ret2
    exact SlPost.mk hR.out (Own.nil _ _) (hb.alloc hb.size _)
  | true =>
    obtain ⟨hfv, hl30, hjf, hpf, hlen, hperm⟩ := planIn_fit hv
    have hR : Hid (endsR s.data.toList J P (endsV s.data.toList J P) true) := ⟨by rw [if_pos hv], hv.symm⟩
    rw [hv] at H
    have HJ := Lib.hid hJ
    have HP := Lib.hid hP
    obtain ⟨ls, hls⟩ : ∃ ls, ls = s.data.toList := ⟨_, rfl⟩
    rw [← hls] at hR hl30 hfv H ⊢
    obtain ⟨n, hn⟩ : ∃ n, n = J.length := ⟨_, rfl⟩
    obtain ⟨np, hnp⟩ : ∃ n, n = P.length := ⟨_, rfl⟩
    obtain ⟨z, hz⟩ : ∃ z, z = ls.length := ⟨_, rfl⟩
    obtain ⟨mm, hmm⟩ : ∃ z, z = maskL ls := ⟨_, rfl⟩
    have Hn := Lib.hid hn
    have Hnp := Lib.hid hnp
    have Hz := Lib.hid hz
    have Hm := Lib.hid hmm
    have Hls := Lib.hid hl30
    have Hfit := Lib.hid hpf
    have Hlen := Lib.hid hlen
    have hn6 : n ≤ 6 := by have := hpf.1; omega
    have hmk := fun w => mk_row (P := Try.prog) 33 3 (.int .i64 0) 8 Try.underlying33 intInfo rfl (n : Int) n rfl (by omega) (by omega) w
    rw [← hn, ← hnp] at H
    rw [← hn, ← hnp]
    clear hn hnp hz hmm hl30 hpf hlen hperm hjf hfv hv hls hJ hP
    refine (callsIn_wide (n := 6)).1 ?_
    refine callsIn_of_wp_marks Try.func39 rfl trivial ?_ rfl
    simp only [Try.ntmps39, List.size_toArray, List.length_cons, List.length_nil, Nat.reduceAdd, Nat.reduceSub, Array.replicate_succ, Array.replicate_zero, List.push_toArray, List.append_toArray, List.nil_append, List.cons_append]
    gi_wp2
    refine ⟨trivial, (callsIn_wide.2 (H.out _ HJ.out HP.out)).mono ?_⟩
    rintro e w1 ⟨m, hm, rfl, hb⟩
    obtain rfl : m = mm := (hm rfl).trans Hm.out.symm
    clear hm
    rw [← Hz.out]
    gi_wp2
    refine ⟨trivial, (callsIn_wide.2 (ends_any m z n c np cP AJ AP _)).mono ?_⟩
    rintro e w' ⟨rfl, rfl⟩
    gi_wp2
    obtain ⟨W0, hW0⟩ : ∃ W0, ((((((w1.alloc (Obj.cells #[.int .u32 m, .int .i64 z] 64)).alloc (Obj.cells (madeCells #[.int .i64 0] n) 3)).alloc (Obj.cells #[.slice (some ⟨w1.heap.size + 1, 0, none⟩) n n] 33)).alloc (Obj.cells #[.int .u32 m, .int .i64 z] 64)).alloc (Obj.cells #[.slice AJ n c] 25)).alloc (Obj.cells #[.slice AP np cP] 33)) = W0 := ⟨_, rfl⟩
    have hs0 : W0.heap.size = w1.heap.size + 6 := by rw [← hW0]; simp
    have hsw := hb.size
    have hB0 : Below w.heap.size w W0 := by
      rw [← hW0]
      exact (((((hb.alloc hsw _).alloc (by simp; omega) _).alloc (by simp; omega) _).alloc (by simp; omega) _).alloc (by simp; omega) _).alloc (by simp; omega) _
    have r1 : Row W0 (w1.heap.size + 1) 3 (ivs (endsOn ls J P (List.replicate J.length 0) [])) := by
      rw [← hW0]; exact ((((Row.newS _ _ _ (by simp) (by rw [endsOn, ← Hn.out, ← ivs_zero]; exact madeCells_toList' _ _)).alloc _).alloc _).alloc _).alloc _
    have r2 : Row W0 (w1.heap.size + 2) 33 [.slice (some ⟨w1.heap.size + 1, 0, none⟩) n n] := by
      rw [← hW0]; exact (((Row.newS _ _ _ (by simp) rfl).alloc _).alloc _).alloc _
    have r3 : Row W0 (w1.heap.size + 3) 64 [.int .u32 m, .int .i64 z] := by
      rw [← hW0]; exact ((Row.newS _ _ _ (by simp) rfl).alloc _).alloc _
    have r4 : Row W0 (w1.heap.size + 4) 25 [.slice AJ n c] := by
      rw [← hW0]; exact (Row.newS _ _ _ (by simp) rfl).alloc _
    have r5 : Row W0 (w1.heap.size + 5) 33 [.slice AP np cP] := by
      rw [← hW0]; exact Row.newS _ _ _ (by simp) rfl
    rw [hW0]
    have hE : EndsAt (fun b => b < W0.heap.size ∧ b ≠ w1.heap.size + 1) W0 (w1.heap.size + 5) (w1.heap.size + 4) (w1.heap.size + 3) AP cP P AJ c J ls :=
      ⟨⟨by omega, by omega, by omega⟩, by rw [← Hnp.out]; exact r5.cellI rfl, by rw [← Hn.out]; exact r4.cellI rfl, by rw [← Hm.out]; exact r3.cellI rfl, by rw [← Hz.out]; exact r3.cellI rfl,
        (HP.out.below hB0 (Nat.le_refl _)).inS (fun b _ hb => by omega), (HJ.out.below hB0).inS (fun b hb => by omega)⟩
    clear hW0 r3 r4 r5
    refine wpIn_rangeFunc_ownF rfl (by omega) (gf := 90) (lb := #[.pointer (some ⟨w1.heap.size + 5, 0, none⟩), .pointer (some ⟨w1.heap.size + 4, 0, none⟩), .pointer (some ⟨w1.heap.size + 3, 0, none⟩)]) (by rfl) trivial (enters_of Try.func90 (by kernel_rfl) rfl)
      (ends1 _ _ _ _ _ _ _ J P ls Hls.out Hfit.out _ W0 (fun b hb => hb.1) hE) (fun h k => h.trans k) (keepS_b (fun b hb => hb.1)) (Below.refl _ _) (fun _ => rfl)
      (fun pre W => (Row W (w1.heap.size + 1) 3 (ivs (endsOn ls J P (List.replicate J.length 0) pre)) ∧ W.cell? ⟨w1.heap.size + 2, 0, none⟩ = some (.slice (some ⟨w1.heap.size + 1, 0, none⟩) n n)) ∧ Below w.heap.size w W)
      (fun _ _ _ => False)
      (OwnFrom.and (Own.from (fun s A B row hs hg hr => ⟨row_kept hs.1 hg hr, cell_kept hs.2 hg hr⟩) _) (ownFrom_below (Nat.le_refl _) (by omega)))
      (fun _ _ _ _ _ hs _ _ => hs)
      ⟨⟨r1, r2.cellI rfl⟩, hB0⟩
      (fun k => { tmps := #[.string s, .slice AJ n c, .slice AP np cP, undef, undef, undef, .slice none 0 0, .bool false, .pointer (some ⟨w1.heap.size, 0, none⟩), .bool true, .pointer (some ⟨w1.heap.size + 1 + 1, 0, none⟩), .int .i64 (P.getD k 0), .int .i64 (fcEnd ls (workTo J P (k + 1))),
        .tuple #[.agg #[.int .u32 m, .int .i64 z], .bool true], .string s, .slice AJ n c, .slice AP np cP, .tuple #[.agg #[.int .u32 m, .int .i64 z], .bool true], .agg #[.int .u32 m, .int .i64 z], .bool true, .bool true, .bool false, .slice AJ n c, .int .i64 n, .slice (some ⟨w1.heap.size + 1, 0, none⟩) n n, .agg #[.int .u32 m, .int .i64 z], .slice AJ n c, .slice AP np cP,
        .func (.func 90) #[] #[.pointer (some ⟨w1.heap.size + 5, 0, none⟩), .pointer (some ⟨w1.heap.size + 4, 0, none⟩), .pointer (some ⟨w1.heap.size + 3, 0, none⟩)], .int .i64 (P.getD k 0), .int .i64 (fcEnd ls (workTo J P (k + 1))), undef, undef, undef, undef, undef], defers := [] }) ?assign ?body ?done ?stop
    case assign =>
      intro l x W K hK
      unfold endsOf
      gi_wp2
      exact hK
    case body =>
      rintro l pre k W ⟨⟨hr, hc2⟩, hB⟩ hlen
      have hPJ := Hfit.out.2.1
      have h0n : 0 < n := by have := hPJ 0 (by omega); have := Hn.out; omega
      have hq : 0 ≤ P.getD k 0 ∧ P.getD k 0 < n := by
        rcases Nat.lt_or_ge k P.length with h | h
        · have := hPJ k h; have := Hn.out; omega
        · rw [List.getD, List.getElem?_eq_none h]; simp; exact h0n
      have hsn := Lib.hid (endsOn_snoc ls J P (List.replicate J.length 0) pre k)
      have hEl : (endsOn ls J P (List.replicate J.length 0) pre).length = n := by rw [endsOn_length, List.length_replicate, Hn.out]
      obtain ⟨p, hp⟩ : ∃ p, p = P.getD k 0 := ⟨_, rfl⟩
      obtain ⟨e', he'⟩ : ∃ e', e' = fcEnd ls (workTo J P (k + 1)) := ⟨_, rfl⟩
      obtain ⟨E, hE'⟩ : ∃ E, E = endsOn ls J P (List.replicate J.length 0) pre := ⟨_, rfl⟩
      rw [← hE'] at hEl hr
      rw [← hp, ← he', ← hE'] at hsn
      rw [← hp] at hq
      rw [← hp, ← he']
      obtain ⟨hq0, hqn⟩ := hq
      obtain ⟨q, rfl⟩ := Int.eq_ofNat_of_zero_le hq0
      have hqn : q < n := by omega
      rw [Int.toNat_natCast] at hsn
      obtain ⟨x, hx⟩ : ∃ x, E[q]? = some x := ⟨E[q]'(by rw [hEl]; exact hqn), List.getElem?_eq_getElem _⟩
      have e1 := hr.cellI (ivs_get hx)
      have f1 := hr.frozen q
      have hst := row_step (S := fun b => b < W0.heap.size ∧ b ≠ w1.heap.size + 1) q (.int .i64 e') (fun h => h.2 rfl) hr hB (by omega)
      clear hx hp he' hPJ hEl hE' r1 r2 hE
      gi_wp2
      obtain ⟨b1, b2, b3, b4, b5⟩ := hst
      exact ⟨b1, b2, ⟨by rw [hsn.out, ← ivs_set]; exact b3, (b4 _ (by show w1.heap.size + 2 ≠ _; omega)).trans hc2⟩, b5⟩
    case done =>
      rintro D ys W hD hys ⟨⟨hr, hc2⟩, hB⟩ hK
      subst hys
      rw [endsOn_range] at hr
      gi_wp2
      refine ⟨by simp, .inl ⟨_, _, rfl, run_takeDeferred hK, ?_⟩⟩
      refine ⟨_, results_tmp2 rfl _ _ _, ?_⟩
      have hB2 := hB.trans (belowK_b (w := w) (Nat.le_refl _) W D _ (.deferred none) (by omega) hK rfl rfl)
      have hr2 := row_kept hr (grownBy_putObj' W D (.deferred none)) (fun r e => by cases e; exact ⟨_, hK, rfl⟩)
      have hEl : (endsTo ls J P P.length).length = n := by rw [endsTo_length, Hn.out]
      have ho := hr2.own (B := w.heap.size) (by omega) (by rw [hEl]; unfold maxLen; omega)
      rw [hEl] at ho
      exact SlPost.mk hR.out ho hB2
    case stop =>
      rintro D c pre W _ _ h _
      exact h.elim
end Go.Proofs.Ytglncadfmomamaa
