/- SignalRead of the program, walked. -/
import Derived.Test.YtpldkfbglfcidaaDoorIp
import Derived.Test.YtpldkfbglfcidaaDoorSvI
namespace Go.Proofs.YtpldkfbglfcidaaDoor
set_option linter.unusedVariables false
set_option linter.unusedSimpArgs false
open Go.RowKit Go.Shelf
attribute [local go_sem] Oper.semAt_some
theorem ag_str (w : World) : (isAgg 9).run Tryd.prog w = .ok false w := Tryd.isAgg9 w
theorem ag_bool (w : World) : (isAgg 4).run Tryd.prog w = .ok false w := Tryd.isAgg4 w
set_option maxRecDepth 100000 in
set_option maxHeartbeats 2000000 in
theorem implRd (s : ByteArray) (hs : s.size ≤ maxLen) (w : World) : Calls Tryd.prog 15 #[.string s] w (ReadPost s.data.toList w) := by
  refine (callsIn_wide (n := 6)).1 ?_
  have HV := implSv s hs
  by_cases h0 : s.size = 0
  · have hl : s.data.toList = [] := List.eq_nil_of_length_eq_zero (by simpa using h0)
    have hR : Hid (rdR s.data.toList ⟨#[]⟩ true) := by rw [hl]; exact rdR_nil
    have he2 : s.toList = [] := by rw [Lib.toList_data, hl]
    have he : s.toList.isEmpty = true := by rw [he2]; rfl
    clear hl hs h0 HV
    refine callsIn_of_wp_marks Tryd.func15 rfl trivial ?_ rfl
    simp only [Tryd.ntmps15, List.size_toArray, List.length_cons, List.length_nil, Nat.reduceAdd, Nat.reduceSub, Array.replicate_succ, Array.replicate_zero, List.push_toArray, List.append_toArray, List.nil_append, List.cons_append]
    gi_wp2
    have q1 : Row ((w.alloc (Obj.cells #[Value.string { data := #[] }] 9)).alloc (Obj.cells #[Value.bool true] 4)) w.heap.size 9 [.string ⟨#[]⟩] := (Row.newS _ _ _ rfl rfl).alloc _
    have q2 : Row ((w.alloc (Obj.cells #[Value.string { data := #[] }] 9)).alloc (Obj.cells #[Value.bool true] 4)) (w.heap.size + 1) 4 [.bool true] := Row.newS _ _ _ (by simp) rfl
    exact ⟨_, results_cell2 rfl _ _ _ _ _ _ _ rfl rfl (loadVar_cell (ag_str _) (q1.cellI (i := 0) rfl)) (loadVar_cell (ag_bool _) (q2.cellI (i := 0) rfl)), _, _, rfl, hR.out, ((Below.refl _ _).alloc (Nat.le_refl _) _).alloc (by simp) _⟩
  · have hne : s.data.toList ≠ [] := fun e => h0 (by have := congrArg List.length e; simpa using this)
    have he : s.toList.isEmpty = false := by rw [Lib.toList_data]; cases h : s.data.toList with
      | nil => exact absurd h hne
      | cons a r => rfl
    cases hv : sgValid s.data.toList with
    | false =>
      have hR : Hid (rdR s.data.toList ⟨#[]⟩ false) := rdR_bad hne hv
      rw [hv] at HV
      have H := Lib.hid HV
      clear HV hv hs hne h0
      refine callsIn_of_wp_marks Tryd.func15 rfl trivial ?_ rfl
      simp only [Tryd.ntmps15, List.size_toArray, List.length_cons, List.length_nil, Nat.reduceAdd, Nat.reduceSub, Array.replicate_succ, Array.replicate_zero, List.push_toArray, List.append_toArray, List.nil_append, List.cons_append]
      obtain ⟨W0, hW0⟩ : ∃ W0, W0 = ((w.alloc (Obj.cells #[Value.string { data := #[] }] 9)).alloc (Obj.cells #[Value.bool false] 4)) := ⟨_, rfl⟩
      have hs0 : W0.heap.size = w.heap.size + 2 := by rw [hW0]; simp
      have hB0 : Below w.heap.size w W0 := by rw [hW0]; exact ((Below.refl _ _).alloc (Nat.le_refl _) _).alloc (by simp) _
      have r1 : Row W0 w.heap.size 9 [.string ⟨#[]⟩] := by rw [hW0]; exact (Row.newS _ _ _ rfl rfl).alloc _
      have r2 : Row W0 (w.heap.size + 1) 4 [.bool false] := by rw [hW0]; exact Row.newS _ _ _ (by simp) rfl
      gi_wp2
      rw [← hW0]
      refine ⟨trivial, (callsIn_wide.2 (H.out _)).mono ?_⟩
      rintro e w1 ⟨rfl, hb1⟩
      clear hW0
      have q1 := r1.below hb1 r1.lt
      have q2 := r2.below hb1 r2.lt
      have c1 := q1.cellI (i := 0) rfl
      have c2 := q2.cellI (i := 0) rfl
      have f1 := q1.frozen 0
      have f2 := q2.frozen 0
      have hbb := hB0.trans (hb1.mono hB0.size)
      clear hb1 hs0 r1 r2
      gi_wp2
      have p1 : Row ((w1.setCell ⟨w.heap.size, 0, none⟩ (.string ⟨#[]⟩)).setCell ⟨w.heap.size + 1, 0, none⟩ (.bool false)) w.heap.size 9 [.string ⟨#[]⟩] := (q1.set 0 _).far (by simp) _
      have p2 : Row ((w1.setCell ⟨w.heap.size, 0, none⟩ (.string ⟨#[]⟩)).setCell ⟨w.heap.size + 1, 0, none⟩ (.bool false)) (w.heap.size + 1) 4 [.bool false] := (q2.far (by simp) _).set 0 _
      exact ⟨_, results_cell2 rfl _ _ _ _ _ _ _ rfl rfl (loadVar_cell (ag_str _) (p1.cellI (i := 0) rfl)) (loadVar_cell (ag_bool _) (p2.cellI (i := 0) rfl)), _, _, rfl, hR.out, (hbb.setCell (p := ⟨w.heap.size, 0, none⟩) (by simp) _).setCell (p := ⟨w.heap.size + 1, 0, none⟩) (by simp) _⟩
    | true =>
      have h80 : s.size ≤ 80 := by
        unfold sgValid at hv
        simp only [Bool.and_eq_true, decide_eq_true_eq] at hv
        simpa using hv.2
      have HN : Hid (∀ ps, ps <+: pieces s.data.toList → okTo ps = false → rdR s.data.toList ⟨#[]⟩ false) := fun ps h1 h2 => rdR_no hne (okTo_pre h1 h2)
      have HY : Hid (okTo (pieces s.data.toList) = true → rdR s.data.toList ⟨(txtTo (pieces s.data.toList)).toArray⟩ true) := fun h => rdR_yes hne hv h
      rw [hv] at HV
      have H := Lib.hid HV
      have HG := Lib.hid (grow_any 5 1 (Nat.le_refl _) (by decide) (by decide))
      have HS := Lib.hid (SplitSeq_any s)
      clear HV hv hs hne h0
      refine callsIn_of_wp_marks Tryd.func15 rfl trivial ?_ rfl
      simp only [Tryd.ntmps15, List.size_toArray, List.length_cons, List.length_nil, Nat.reduceAdd, Nat.reduceSub, Array.replicate_succ, Array.replicate_zero, List.push_toArray, List.append_toArray, List.nil_append, List.cons_append]
      obtain ⟨W0, hW0⟩ : ∃ W0, W0 = ((w.alloc (Obj.cells #[Value.string { data := #[] }] 9)).alloc (Obj.cells #[Value.bool false] 4)) := ⟨_, rfl⟩
      have hs0 : W0.heap.size = w.heap.size + 2 := by rw [hW0]; simp
      have hB0 : Below w.heap.size w W0 := by rw [hW0]; exact ((Below.refl _ _).alloc (Nat.le_refl _) _).alloc (by simp) _
      have r1 : Row W0 w.heap.size 9 [.string ⟨#[]⟩] := by rw [hW0]; exact (Row.newS _ _ _ rfl rfl).alloc _
      have r2 : Row W0 (w.heap.size + 1) 4 [.bool false] := by rw [hW0]; exact Row.newS _ _ _ (by simp) rfl
      gi_wp2
      rw [← hW0]
      refine ⟨trivial, (callsIn_wide.2 (H.out _)).mono ?_⟩
      rintro e w1 ⟨rfl, hb1⟩
      clear hW0
      have q1 := r1.below hb1 r1.lt
      have q2 := r2.below hb1 r2.lt
      have hbb := hB0.trans (hb1.mono hB0.size)
      have hs1 := hb1.size
      gi_wp2
      refine ⟨trivial, (callsIn_wide.2 (HG.out _)).mono ?_⟩
      rintro e w2 ⟨v, rfl, hbr, hb2⟩
      replace q1 := q1.below hb2 q1.lt
      replace q2 := q2.below hb2 q2.lt
      replace hbb := hbb.trans (hb2.mono hbb.size)
      have hs2 := hb2.size
      have hB2 : w.heap.size + 2 ≤ w2.heap.size := by omega
      have Hbr := Lib.hid hbr
      have hw12 : w.heap.size ≤ w1.heap.size := by omega
      clear hbr hb1 hb2 r1 r2 hB0 hs0 hs1 hs2
      obtain ⟨bt, hbt⟩ : ∃ k, k = w2.heap.size := ⟨_, rfl⟩
      obtain ⟨W2, hW2⟩ : ∃ W2, W2 = (((w2.alloc (Obj.cells #[Value.pointer v] 45)).alloc (Obj.cells #[] 5)).alloc (Obj.cells #[Value.slice (some { block := w2.heap.size + 1, off := 0 }) 0 0] 22)) := ⟨_, rfl⟩
      have hs2 : W2.heap.size = bt + 3 := by rw [hW2, hbt]; simp
      gi_wp2
      rw [← hW2]
      refine ⟨trivial, (callsIn_wide.2 (HS.out _)).mono ?_⟩
      rintro e W3 ⟨rfl, hW3⟩
      rw [hs2]
      unfold splitF
      have hs3 : W3.heap.size = bt + 6 := by rw [hW3]; simp; omega
      have n1 : Row W3 (bt + 3) 9 [.string s] := by rw [hW3]; exact ((Row.newS _ _ _ (by omega) rfl).alloc _).alloc _
      have n2 : Row W3 (bt + 3 + 1) 9 [.string ⟨#[48]⟩] := by rw [hW3]; exact (Row.newS _ _ _ (by simp; omega) rfl).alloc _
      have n3 : Row W3 (bt + 3 + 2) 3 [.int .i64 0] := by rw [hW3]; exact Row.newS _ _ _ (by simp; omega) rfl
      have hB3 : Below bt w2 W3 := by
        rw [hW3, hW2, hbt]
        exact ((((((Below.refl _ w2).alloc (Nat.le_refl _) _).alloc (by simp) _).alloc (by simp; omega) _).alloc (by simp; omega) _).alloc (by simp; omega) _).alloc (by simp; omega) _
      have m1 : Row W3 bt 45 [.pointer v] := by rw [hW3, hW2, hbt]; exact (((((Row.newS _ _ _ rfl rfl).alloc _).alloc _).alloc _).alloc _).alloc _
      have m3 : Row W3 (bt + 2) 22 [.slice (some ⟨bt + 1, 0, none⟩) 0 0] := by rw [hW3, hW2, hbt]; exact (((Row.newS _ _ _ (by simp) rfl).alloc _).alloc _).alloc _
      have mo : OwnU W3 (w.heap.size + 2) (bt + 1) 0 0 [] := by
        have := OwnU.lit0 (w2.alloc (Obj.cells #[Value.pointer v] 45)) (w.heap.size + 2) (by simp; omega)
        rw [World.size_alloc, ← hbt] at this
        rw [hW3, hW2]; exact (((this.alloc _).alloc _).alloc _).alloc _
      have hit := Lib.hid (split_iter s (bt + 3) (by omega) W3 n1 n2 n3)
      have hI0 : RdI w2 w.heap.size bt v [] W3 := ⟨hB3, m1, ⟨bt + 1, 0, 0, m3, mo, .inl rfl⟩, rfl, by omega⟩
      have HBr3 : ∀ W, Below bt w2 W → Br W w.heap.size 5 1 v := fun W h => Br.more (by omega : w.heap.size ≤ w1.heap.size) _ _ _ (Br.below h (by omega) _ _ _ Hbr.out)
      replace HBr3 := Lib.hid HBr3
      have hq1 : w.heap.size < bt := by omega
      have hq2 : w.heap.size + 1 < bt := by omega
      rw [← hbt]
      rw [← hbt] at hB2
      have hbt2 : bt ≤ w2.heap.size := by omega
      have Hbt := Lib.hid hbt
      clear hW3 hW2 m1 m3 mo hs2 Hbr hbt
      gi_wp2
      have Hq1 := Lib.hid q1
      have Hq2 := Lib.hid q2
      have Hbb := Lib.hid hbb
      have HS3 := Lib.hid hs3
      clear q1 q2 hbb n1 n2 n3
      refine wpIn_rangeFunc_cut (gf := 69) (lb := #[.pointer (some ⟨bt + 3 + 1, 0, none⟩), .pointer (some ⟨bt + 3, 0, none⟩), .pointer (some ⟨bt + 3 + 2, 0, none⟩)]) (by rfl) (enters_of Tryd.func69 (by kernel_rfl) rfl)
        hit.out (Below.refl _ _) (by omega) (fun _ => rfl)
        (RdI w2 w.heap.size bt v) (RdX w w.heap.size bt) (fun pre A B h k => RdI.turn h (by rw [HS3.out] at k; exact k) hbt2) (fun pre A B h k => RdX.turn h (by rw [HS3.out] at k; exact k) (Nat.le_refl _) hq2) hI0
        (fun x => { tmps := #[Value.string s, undef, Value.pointer (some { block := w.heap.size, off := 0 }),
                Value.pointer (some { block := w.heap.size + 1, off := 0 }),
                Value.pointer (some { block := bt, off := 0 }),
                Value.pointer (some { block := bt + 1 + 1, off := 0 }), .string x, undef, Value.string s,
                Value.bool false, Value.string s, Value.bool true, Value.bool false, Value.pointer v,
                Value.slice (some { block := bt + 1, off := 0 }) 0 0, Value.string s, .func (.func 69) #[] #[.pointer (some ⟨bt + 3 + 1, 0, none⟩), .pointer (some ⟨bt + 3, 0, none⟩), .pointer (some ⟨bt + 3 + 2, 0, none⟩)], .string x, undef,
                undef, undef, undef, undef, undef, undef, undef, undef, undef, undef, undef, undef, undef, undef, undef], defers := [] }) ?assign ?body ?done ?stop
      case assign =>
        intro k l x W K hK
        clear hs3
        gi_wp2
        exact hK
      case body =>
        rintro k l pre x W ⟨hB, r1, ⟨g, n, c, r2, ho, hg⟩, hok, hsz⟩ hx hWD
        rw [HS3.out] at hWD
        have hbr := Lib.hid (HBr3.out W hB)
        have hfo := Lib.hid (fun w' (h : Br w' w.heap.size 5 1 v) => follow_any 5 1 w.heap.size v x (by omega) w' h)
        obtain ⟨r, hr⟩ : ∃ r, r = folV 1 x.data.toList := ⟨_, rfl⟩
        rw [← hr] at hfo
        have hrl : letV x.data.toList = r := hr.symm
        have hr122 : r ≤ 122 := by rw [hr]; exact folV_le _ _
        have hpc : pcs (pre ++ [x]) = pcs pre ++ [x.data.toList] := by unfold pcs; simp
        have hst := okTo_snoc (pcs pre) x.data.toList
        have hns := txtTo_snoc (pcs pre) x.data.toList
        rw [← hpc, hok, hrl] at hst
        rw [← hpc, hrl] at hns
        have hln : n = (pcs pre).length := by rw [ho.2, txtTo_len]
        have hn12 : n ≤ 12 := by
          unfold okTo at hok
          simp only [Bool.and_eq_true, decide_eq_true_eq] at hok
          omega
        rw [← hln] at hst
        have Hr1 := Lib.hid r1
        have Hr2 := Lib.hid r2
        have Ho := Lib.hid ho
        have HB := Lib.hid hB
        have r1c := r1.cellI (i := 0) rfl
        have r2c := r2.cellI (i := 0) rfl
        have p1 := Hq1.out.below hB hq1
        have p2 := Hq2.out.below hB hq2
        have p1c := p1.cellI (i := 0) rfl
        have p2c := p2.cellI (i := 0) rfl
        have p1f := p1.frozen 0
        have p2f := p2.frozen 0
        have hB0 : Below w.heap.size w W := Hbb.out.trans (hB.mono (by omega))
        have hX : Hid (okTo (pcs (pre ++ [x])) = false → cutPost (RdI w2 w.heap.size bt v (pre ++ [x])) (RdX w w.heap.size bt (pre ++ [x])) (bt + 3) 3 (bt + 6) W .ret { tmps := #[], defers := [] } ((W.setCell ⟨w.heap.size, 0, none⟩ (.string ⟨#[]⟩)).setCell ⟨w.heap.size + 1, 0, none⟩ (.bool false))) := fun h =>
          ⟨(KeepBox.setCell _ _ _ (by simp; omega) (by simp; omega)).trans (KeepBox.setCell _ _ _ (by simp; omega) (by simp; omega)),
            (hB0.setCell (p := ⟨w.heap.size, 0, none⟩) (by simp) _).setCell (p := ⟨w.heap.size + 1, 0, none⟩) (by simp) _, (p1.set 0 _).far (by simp) _, (p2.far (by simp) _).set 0 _, h, by simpa using hsz⟩
        replace hns := Lib.hid hns
        rw [HS3.out]
        clear hs3 hr hrl hpc hln ho hB r1 r2 p1 p2 hB0
        by_cases hz : r = 0
        · subst hz
          have hf := Lib.hid (hX.out (by rw [hst]; simp))
          clear hst hX
          gi_wp2
          refine ⟨trivial, fun h => by simp [Fence.wide] at h, (CallsIn.inRound l (callsIn_wide.2 (hfo.out _ hbr.out))).mono ?_⟩
          rintro e W5 ⟨rfl, rfl⟩
          gi_wp2
          exact hf.out
        · have hz1 : ((r : Int) == 0) = false := bF (by omega)
          have hz2 : (r != 0) = true := by simpa using hz
          by_cases h12 : n = 12
          · have hf := Lib.hid (hX.out (by rw [hst, decide_eq_false (by omega)]; rfl))
            subst h12
            clear hst hX hz hz2
            gi_wp2
            refine ⟨trivial, fun h => by simp [Fence.wide] at h, (CallsIn.inRound l (callsIn_wide.2 (hfo.out _ hbr.out))).mono ?_⟩
            rintro e W5 ⟨rfl, rfl⟩
            gi_wp2
            exact hf.out
          · have hst' : Hid (okTo (pcs (pre ++ [x])) = true) := by show _ = _; rw [hst, decide_eq_true (by omega), hz2]; rfl
            have h12' : ((n : Int) == 12) = false := bF (by omega)
            have hc8 : Hid ((r : Int) = ((UInt8.ofNat r).toNat : Int)) := by show _ = _; simp; omega
            clear hst hX hz hz2
            gi_wp2
            refine ⟨trivial, fun h => by simp [Fence.wide] at h, (CallsIn.inRound l (callsIn_wide.2 (hfo.out _ hbr.out))).mono ?_⟩
            rintro e W5 ⟨rfl, rfl⟩
            have hcl : (W.alloc (.cells #[.int .u8 (r : Int)] 5)).cell? ⟨W.heap.size, 0, none⟩ = some (.int .u8 ((UInt8.ofNat r).toNat : Int)) := by rw [← hc8.out]; exact alloc1_cell rfl
            have Hcl := Lib.hid hcl
            clear hcl
            have hsz2 : w.heap.size + 2 ≤ (W.alloc (.cells #[.int .u8 (r : Int)] 5)).heap.size := by simp; omega
            gi_wp2_with (gi_at_builtin; refine appUF _ rfl _ _ rfl (w.heap.size + 2) g n c (txtTo (pcs pre)) rfl (Ho.out.alloc (.cells #[.int .u8 (r : Int)] 5)) ⟨W.heap.size, 0, none⟩ (UInt8.ofNat r) rfl Hcl.out (by omega) hsz2 ?_; intro g5 c5 w5 ho5 hg5 hd5; have q2 := (Hr2.out.alloc (.cells #[.int .u8 (r : Int)] 5)).grown hg5 (by intro e; injection e with e; omega); have q2c := q2.cellI (i := 0) rfl; have q2f := q2.frozen 0)
            rw [← hns.out] at ho5
            have hb5 : Below bt w2 w5 := (HB.out.alloc (Nat.le_trans hbt2 HB.out.size) _).grown hg5 (by simp; omega) (fun j hj => by injection hj with hj; omega)
            have hk5 : KeepBox (bt + 3) 3 (bt + 6) 2 W w5 := by
              refine KeepBox.trans (B := W.alloc (.cells #[.int .u8 (r : Int)] 5)) ⟨by simp, fun k hk => Below.heap_alloc W _ k (by omega)⟩ ⟨hg5.size, fun k hk => hg5.block k (by simp; omega) (fun e => by injection e with e; omega)⟩
            have hs5 := hg5.size
            rw [World.size_alloc] at hs5 hd5
            refine ⟨hk5.trans (KeepBox.setCell _ _ _ (by simp) (by simp)), hb5.setCell (p := ⟨bt + 1 + 1, 0, none⟩) (by simp; omega) _, ?_, ⟨g5, n + 1, c5, q2.set 0 _, ?_, ?_⟩, hst'.out, ?_⟩
            · exact ((Hr1.out.alloc _).grown hg5 (by intro e; injection e with e; omega)).far (by simp; omega) _
            · exact ho5.same (Below.heap_setCell _ _ _ _ (by simp; omega))
            · omega
            · simp [World.setCell]; omega
      case done =>
        rintro xs W hS ⟨hB, r1, ⟨g, n, c, r2, ho, hg⟩, hok, hsz⟩ hK
        rw [hS] at hok
        have hR := Lib.hid (HY.out hok)
        rw [hS] at ho
        have r2c := r2.cellI (i := 0) rfl
        have hcv := ho.text
        have p1 := Hq1.out.below hB hq1
        have p2 := Hq2.out.below hB hq2
        have p1c := p1.cellI (i := 0) rfl
        have p2c := p2.cellI (i := 0) rfl
        have p1f := p1.frozen 0
        have p2f := p2.frozen 0
        have hB0 : Below w.heap.size w W := Hbb.out.trans (hB.mono (by omega))
        obtain ⟨T, hT⟩ : ∃ T, T = txtTo (pieces s.data.toList) := ⟨_, rfl⟩
        rw [← hT] at hcv hR
        have hK2 : Hid (((W.setCell ⟨w.heap.size, 0, none⟩ (.string ⟨T.toArray⟩)).setCell ⟨w.heap.size + 1, 0, none⟩ (.bool true)).heap[W3.heap.size]? = some (.deferred (some []))) :=
          ((Below.heap_setCell _ _ _ _ (by have := HS3.out; simp; omega)).trans (Below.heap_setCell _ _ _ _ (by have := HS3.out; simp; omega))).trans hK
        clear hs3 hT hok ho r1 r2 hB hS hK
        gi_wp2
        refine ⟨by simp, .inl ⟨_, _, rfl, run_takeDeferred (w := (W.setCell ⟨w.heap.size, 0, none⟩ (.string ⟨T.toArray⟩)).setCell ⟨w.heap.size + 1, 0, none⟩ (.bool true)) hK2.out, ?_⟩⟩
        have z1 : Row (((W.setCell ⟨w.heap.size, 0, none⟩ (.string ⟨T.toArray⟩)).setCell ⟨w.heap.size + 1, 0, none⟩ (.bool true)).putObj W3.heap.size (.deferred none)) w.heap.size 9 [.string ⟨T.toArray⟩] := (World.putObj_heap_other (by have := HS3.out; omega)).trans ((p1.set 0 _).far (by simp) _)
        have z2 : Row (((W.setCell ⟨w.heap.size, 0, none⟩ (.string ⟨T.toArray⟩)).setCell ⟨w.heap.size + 1, 0, none⟩ (.bool true)).putObj W3.heap.size (.deferred none)) (w.heap.size + 1) 4 [.bool true] := (World.putObj_heap_other (by have := HS3.out; omega)).trans ((p2.far (by simp) _).set 0 _)
        have hB2 := (hB0.setCell (p := ⟨w.heap.size, 0, none⟩) (Nat.le_refl _) (.string ⟨T.toArray⟩)).setCell (p := ⟨w.heap.size + 1, 0, none⟩) (Nat.le_succ _) (.bool true)
        exact ⟨_, results_cell2 rfl _ _ _ _ _ _ _ rfl rfl (loadVar_cell (ag_str _) (z1.cellI (i := 0) rfl)) (loadVar_cell (ag_bool _) (z2.cellI (i := 0) rfl)), _, _, rfl, hR.out, hB2.trans (belowK_b (w := w) (Nat.le_refl _) _ W3.heap.size _ _ (by have := HS3.out; omega) hK2.out rfl rfl)⟩
      case stop =>
        rintro pre W hS ⟨hB, r1, r2, hok, hsz⟩ hK
        have hR := Lib.hid (HN.out _ hS hok)
        have HK := Lib.hid hK
        clear hs3 hS hok hK
        gi_wp2
        refine ⟨by simp, .inl ⟨_, _, rfl, run_takeDeferred HK.out, ?_⟩⟩
        have z1 : Row (W.putObj W3.heap.size (.deferred none)) w.heap.size 9 [.string ⟨#[]⟩] := (World.putObj_heap_other (by have := HS3.out; omega)).trans r1
        have z2 : Row (W.putObj W3.heap.size (.deferred none)) (w.heap.size + 1) 4 [.bool false] := (World.putObj_heap_other (by have := HS3.out; omega)).trans r2
        exact ⟨_, results_cell2 rfl _ _ _ _ _ _ _ rfl rfl (loadVar_cell (ag_str _) (z1.cellI (i := 0) rfl)) (loadVar_cell (ag_bool _) (z2.cellI (i := 0) rfl)), _, _, rfl, hR.out, hB.trans (belowK_b (w := w) (Nat.le_refl _) W W3.heap.size _ _ (by have := HS3.out; omega) HK.out rfl rfl)⟩
end Go.Proofs.YtpldkfbglfcidaaDoor
