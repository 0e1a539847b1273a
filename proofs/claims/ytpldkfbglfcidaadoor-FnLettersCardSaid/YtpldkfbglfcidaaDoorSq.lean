/- The library's iterator over a text's pieces, walked: its contract. -/
import Derived.Test.YtpldkfbglfcidaaDoorRp
import Derived.Test.YtpldkfbglfcidaaDoorSeq
import Derived.Test.YtpldkfbglfcidaaDoorShelf219
import Derived.Lib.IndexLaws
import Derived.OwnWalkIn
import Derived.TacticsInMore
import Derived.LoopNIn
import Derived.LoopIn
namespace Go.Proofs.YtpldkfbglfcidaaDoor
set_option linter.unusedVariables false
set_option linter.unusedSimpArgs false
open Go.RowKit Go.Shelf
attribute [local go_sem] Oper.semAt_some
theorem index_any (r : ByteArray) (w : World) : Calls Tryd.prog 71 #[.string r, .string ⟨#[48]⟩] w fun e w' => e = .returned (.int .i64 (Lib.indexByte r.data.toList 48)) ∧ w = w' := by
  have hT := fun w => Any.stringslite_Index_one Tryd.lays219 r 48 w
  change ∀ w, Calls Tryd.prog 81 #[.string r, .string ⟨#[48]⟩] w (fun e w' => e = .returned (.int .i64 (Lib.indexByte r.data.toList 48)) ∧ w' = w) at hT
  have HT := Lib.hid hT
  clear hT
  go_enter Tryd.func71, Tryd.ntmps71
  go_wp2_with fail
  refine (HT.out _).mono ?_
  rintro e w1 ⟨rfl, rfl⟩
  go_wp2_with fail
  go_ret
  exact ⟨rfl, rfl⟩
def splitF (B : Nat) : Value := .func (.func 69) #[] #[.pointer (some ⟨B + 1, 0, none⟩), .pointer (some ⟨B, 0, none⟩), .pointer (some ⟨B + 2, 0, none⟩)]
theorem splitSeq_any (s : ByteArray) (w : World) : Calls Tryd.prog 51 #[.string s, .string ⟨#[48]⟩, .int .i64 0] w fun e w' =>
    e = .returned (splitF w.heap.size) ∧ w' = ((w.alloc (.cells #[.string s] 9)).alloc (.cells #[.string ⟨#[48]⟩] 9)).alloc (.cells #[.int .i64 0] 3) := by
  go_enter Tryd.func51, Tryd.ntmps51
  go_wp2_with fail
  go_ret
  exact ⟨rfl, rfl⟩
theorem SplitSeq_any (s : ByteArray) (w : World) : Calls Tryd.prog 38 #[.string s, .string ⟨#[48]⟩] w fun e w' =>
    e = .returned (splitF w.heap.size) ∧ w' = ((w.alloc (.cells #[.string s] 9)).alloc (.cells #[.string ⟨#[48]⟩] 9)).alloc (.cells #[.int .i64 0] 3) := by
  have H := Lib.hid (splitSeq_any s)
  go_enter Tryd.func38, Tryd.ntmps38
  go_wp2_with fail
  refine (H.out _).mono ?_
  rintro e w1 ⟨rfl, rfl⟩
  unfold splitF
  go_wp2_with fail
  go_ret
  exact ⟨rfl, rfl⟩
def boxLen (B : Nat) (w : World) : Nat := match w.cell? ⟨B, 0, none⟩ with
  | some (.string s) => s.size
  | _ => 0
theorem boxLen_eq {B : Nat} {w : World} {r : ByteArray} (h : w.cell? ⟨B, 0, none⟩ = some (.string r)) : boxLen B w = r.size := by unfold boxLen; rw [h]
theorem Row.keep {nb z D c b : Nat} {t : TypeId} {l : List Value} {A B : World} (h : Row A b t l) (k : KeepBox nb z D c A B) (hb : nb ≤ b ∧ b < nb + z) : Row B b t l := (k.same b (.inl hb)).trans h
def pcs (xs : List ByteArray) : List (List UInt8) := xs.map fun p => p.data.toList
set_option maxRecDepth 100000 in
set_option maxHeartbeats 2000000 in
theorem split_iter (s : ByteArray) (B : Nat) (hs : s.size ≤ 1000) (w : World) (r1 : Row w B 9 [.string s]) (r2 : Row w (B + 1) 9 [.string ⟨#[48]⟩]) (r3 : Row w (B + 2) 3 [.int .i64 0]) :
    SeqCut Tryd.prog 69 #[.pointer (some ⟨B + 1, 0, none⟩), .pointer (some ⟨B, 0, none⟩), .pointer (some ⟨B + 2, 0, none⟩)] (fun x : ByteArray => #[.string x]) B 3 (fun x => x.size ≤ s.size)
      (fun xs => pcs xs = pieces s.data.toList) (fun pre => pcs pre <+: pieces s.data.toList) w := by
  intro q l J Jx W hW hJ hJx hY h0
  have r1 := r1.below hW r1.lt
  have r2 := r2.below hW r2.lt
  have r3 := r3.below hW r3.lt
  have HJ := Lib.hid hJ
  have HJx := Lib.hid hJx
  have HY := Lib.hid hY
  have HX := Lib.hid index_any
  have HL : Hid (∀ (xs : List ByteArray) (r : ByteArray), Lib.indexByte r.data.toList 48 = -1 → pieces s.data.toList = pcs xs ++ pieces r.data.toList → pcs (xs ++ [r]) = pieces s.data.toList) := fun xs r h1 h2 => by
    rw [h2, pieces_none, pcs, pcs, List.map_append]; rfl
    intro c hc e
    obtain ⟨k, hk, hkc⟩ := List.getElem_of_mem hc
    refine Lib.indexByte_none h1 k ?_
    rw [List.getElem?_eq_getElem hk, hkc, e]
  have HC : Hid (∀ (xs : List ByteArray) (r : ByteArray) (o : Nat), Lib.indexByte r.data.toList 48 = o → pieces s.data.toList = pcs xs ++ pieces r.data.toList → o < r.size ∧ pieces s.data.toList = pcs (xs ++ [r.extract 0 o]) ++ pieces (r.extract (o + 1) r.size).data.toList) := fun xs r o h1 h2 => by
    obtain ⟨h3, h4⟩ := Lib.indexByte_some h1
    have ho : o < r.data.toList.length := by
      rcases Nat.lt_or_ge o r.data.toList.length with h | h
      · exact h
      · rw [List.getElem?_eq_none h] at h3; cases h3
    refine ⟨by simpa using ho, ?_⟩
    have e1 : (r.extract 0 o).data.toList = r.data.toList.take o := by rw [ByteArray.data_extract]; simp [List.extract_eq_take_drop]
    have e2 : (r.extract (o + 1) r.size).data.toList = r.data.toList.drop (o + 1) := by
      rw [ByteArray.data_extract]; simp only [Array.toList_extract, List.extract_eq_take_drop]
      rw [List.take_of_length_le (by simp)]
    rw [h2, pieces_cut r.data.toList o ?_ h3, pcs, pcs, List.map_append, List.map_cons, List.map_nil, e1, e2]
    · simp
    · intro c hc e
      obtain ⟨k, hk, hkc⟩ := List.getElem_of_mem hc
      rw [List.length_take] at hk
      refine h4 k (by omega) ?_
      rw [List.getElem?_eq_getElem (by omega), ← e, ← hkc, List.getElem_take]
  have HP : Hid (∀ (xs : List ByteArray) (x : ByteArray) (r : List (List UInt8)), pieces s.data.toList = pcs (xs ++ [x]) ++ r → pcs (xs ++ [x]) <+: pieces s.data.toList) := fun xs x r h => ⟨r, h.symm⟩
  have hq0 : Hid (pieces s.data.toList = pcs [] ++ pieces s.data.toList) := rfl
  have rc := r1.cellI (i := 0) rfl
  have rd := r2.cellI (i := 0) rfl
  clear hW hJ hJx hY
  refine callsIn_of_wp Tryd.func69 rfl trivial ?_ rfl
  simp only [Tryd.ntmps69, List.size_toArray, List.length_cons, List.length_nil, Nat.reduceAdd, Nat.reduceSub, Array.replicate_succ, Array.replicate_zero, List.push_toArray, List.append_toArray, List.nil_append, List.cons_append]
  gi_wp2
  gi_loopw [7] (fun i wr => ∃ (xs : List ByteArray) (r : ByteArray), Row wr B 9 [.string r] ∧ Row wr (B + 1) 9 [.string ⟨#[48]⟩] ∧ Row wr (B + 2) 3 [.int .i64 0] ∧ r.size ≤ s.size ∧ Hid (pieces s.data.toList = pcs xs ++ pieces r.data.toList) ∧ J xs wr) (fun _ wr => boxLen B wr)
  case atStart => exact ⟨[], s, r1, r2, r3, Nat.le_refl _, hq0.out, h0⟩
  case round =>
    obtain ⟨xs, r, r1, r2, r3, hrs, hp, hj⟩ := hrel
    have c1 := r1.cellI (i := 0) rfl
    have c2 := r2.cellI (i := 0) rfl
    have c3 := r3.cellI (i := 0) rfl
    have f1 := r1.frozen 0
    have hx := HX.out r
    obtain ⟨ix, hix⟩ : ∃ i, i = Lib.indexByte r.data.toList 48 := ⟨_, rfl⟩
    have hge := Lib.indexByte_ge r.data.toList 48
    rw [← hix] at hx hge
    replace hx := Lib.hid hx
    by_cases hneg : ix < 0
    · have hix1 : Lib.indexByte r.data.toList 48 = -1 := by omega
      have hS := Lib.hid (HL.out xs r hix1 hp.out)
      have hr0 := Lib.hid (HY.out (q - 1) xs r wr hj hrs)
      clear hix hix1 hge HC
      obtain ⟨fn, tmps, assign, body, hy, hR⟩ := hr0.out
      gi_wp2
      refine ⟨trivial, fun h => by simp [Fence.wide] at h, (callsIn_wide.2 (hx.out _)).mono ?_⟩
      rintro e w1 ⟨rfl, rfl⟩
      gi_wp2
      refine ⟨fun h => by simp [Fence.wide] at h, RoundIn.mono hR ?_⟩
      rintro e W3 (⟨rfl, hJ3, hk3⟩ | ⟨rfl, hJ3⟩)
      · gi_wp2
        go_end0
        exact ⟨⟨_, rfl⟩, .inl ⟨_, hS.out, hJ3⟩⟩
      · gi_wp2
        go_end0
        exact ⟨⟨_, rfl⟩, .inr ⟨_, by rw [hS.out]; exact List.prefix_rfl, hJ3⟩⟩
    · obtain ⟨o, rfl⟩ := Int.eq_ofNat_of_zero_le (show 0 ≤ ix by omega)
      obtain ⟨ho, hS⟩ := HC.out xs r o hix.symm hp.out
      replace hS := Lib.hid hS
      have hr0 := Lib.hid (HY.out (q - 1) xs (r.extract 0 o) wr hj (by rw [ByteArray.size_extract]; omega))
      clear hix hge HL
      obtain ⟨fn, tmps, assign, body, hy, hR⟩ := hr0.out
      gi_wp2
      refine ⟨trivial, fun h => by simp [Fence.wide] at h, (callsIn_wide.2 (hx.out _)).mono ?_⟩
      rintro e w1 ⟨rfl, rfl⟩
      gi_wp2
      refine ⟨fun h => by simp [Fence.wide] at h, RoundIn.mono hR ?_⟩
      rintro e W3 (⟨rfl, hJ3, hk3⟩ | ⟨rfl, hJ3⟩)
      · have q1 := r1.keep hk3 (by omega)
        have q2 := r2.keep hk3 (by omega)
        have q3 := r3.keep hk3 (by omega)
        have d1 := q1.cellI (i := 0) rfl
        have d2 := q2.cellI (i := 0) rfl
        have d3 := q3.cellI (i := 0) rfl
        have g1 := q1.frozen 0
        gi_wp2
        go_roundw
        case rel =>
          refine ⟨_, r.extract (o + 1) r.size, q1.set 0 _, q2.far (by simp) _, q3.far (by simp) _, by rw [ByteArray.size_extract]; omega, hS.out, HJ.out _ _ _ hJ3 (TurnBox.setCell _ _ _ _ _ _ _ (by simp))⟩
        case measure =>
          rw [boxLen_eq c1, boxLen_eq ((q1.set 0 _).cellI (i := 0) rfl), ByteArray.size_extract]; omega
      · gi_wp2
        refine bodyPost_ret (results_none rfl _ _ _) rfl ?_
        exact ⟨⟨_, rfl⟩, .inr ⟨_, HP.out _ _ _ hS.out, hJ3⟩⟩
end Go.Proofs.YtpldkfbglfcidaaDoor
