/- PlanBest of the program, walked. -/
import Derived.Test.YtglncadfmomamaaPm
import Derived.Test.YtglncadfmomamaaEnds
import Derived.Test.YtglncadfmomamaaRes
import Derived.Lib.SliceRun
namespace Go.Proofs.Ytglncadfmomamaa
set_option linter.unusedVariables false
set_option linter.unusedSimpArgs false
open Go.RowKit Go.Shelf
attribute [local go_sem] Oper.semAt_some
/-- The first one with the least loss. -/
def stepB (F : List Int → Int) (s : List Int × Int) (x : List Int) : List Int × Int := if s.2 < 0 ∨ F x < s.2 then (x, F x) else s
def bestOf (F : List Int → Int) (L : List (List Int)) : List Int × Int := L.foldl (stepB F) ([], -1)
def bestR (l : List UInt8) (J : List Jb) (xs : List Int) (ok : Bool) : Prop := ok = planV l J ∧ xs = if planV l J then (bestOf (lossV l J) (perms J.length J.length [])).1 else []
/-- A slice of the call's own whose capacity may be less than its array's, and a Boolean. -/
def SlcPost (R : List Int → Bool → Prop) (w : World) (e : Ending) (w' : World) : Prop := ∃ A c c0 xs ok, e = .returned (.tuple #[.slice A xs.length c, .bool ok]) ∧ R xs ok ∧ Own w' w.heap.size (.slice A xs.length c0) xs ∧ Below w.heap.size w w'
theorem SlcPost.mk {R : List Int → Bool → Prop} {w w' : World} {v : Value} {xs : List Int} {ok : Bool} (hR : R xs ok) (ho : Own w' w.heap.size v xs) (hb : Below w.heap.size w w') : SlcPost R w (.returned (.tuple #[v, .bool ok])) w' := by
  obtain ⟨A, c, rfl, _⟩ := ho.form
  exact ⟨A, c, c, xs, ok, rfl, hR, ho, hb⟩
theorem Row.turn {L c : Nat} {A B : World} {g : Nat} {t : TypeId} {l : List Value} (h : Row A g t l) (k : TurnIn L c A B) (hg : g < L) : Row B g t l := (k.block g h.lt (by omega)).trans h
/-- Between two rounds. -/
def BestI (w : World) (L bj bf bb : Nat) (AJ : Option Addr) (c n m z : Nat) (F : List Int → Int) (pre : List (List Int)) (W : World) : Prop :=
  (∃ A c', Row W bb 33 [.slice A (bestOf F pre).1.length c'] ∧ Own W w.heap.size (.slice A (bestOf F pre).1.length c') (bestOf F pre).1 ∧ ∀ k, (Value.slice A (bestOf F pre).1.length c').ownBlock = some k → ¬ (L ≤ k ∧ k < L + 6) ∧ k ≠ bb ∧ k ≠ bb + 1) ∧
  Row W (bb + 1) 3 [.int .i64 (bestOf F pre).2] ∧ Row W bj 25 [.slice AJ n c] ∧ Row W bf 64 [.int .u32 m, .int .i64 z] ∧ Below w.heap.size w W
theorem ownBlock_some {g n c : Nat} : (Value.slice (some ⟨g, 0, none⟩) n c).ownBlock = some g := rfl
theorem turn_own {A B : World} {L c b : Nat} {v : Value} {xs : List Int} (h : Own A b v xs) (t : TurnIn L c A B) (hv : ∀ k, v.ownBlock = some k → ¬ (L ≤ k ∧ k < L + c)) : Own B b v xs := by
  obtain ⟨h1, h2⟩ := h
  refine ⟨h1, ?_⟩
  rcases h2 with ⟨e, h⟩ | ⟨g', cap', cur, e, a1, a2, a3⟩
  · exact .inl ⟨e, h⟩
  · subst e
    exact .inr ⟨g', cap', cur, rfl, a1, (t.block g' (Array.getElem?_eq_some_iff.1 a2).1 (hv _ rfl)).trans a2, a3⟩
/-- The append of a part of a slice of numbers. -/
theorem BestI.turn {w : World} {L bj bf bb : Nat} {AJ : Option Addr} {c n m z : Nat} {F : List Int → Int} {pre : List (List Int)} {A B : World} (h : BestI w L bj bf bb AJ c n m z F pre A) (k : TurnIn L 6 A B) (h1 : bj < L) (h2 : bf < L) (h3 : bb + 1 < L) (h4 : w.heap.size ≤ L) : BestI w L bj bf bb AJ c n m z F pre B := by
  obtain ⟨⟨X, c', r1, o1, e1⟩, r2, r3, r4, hb⟩ := h
  exact ⟨⟨X, c', r1.turn k (by omega), turn_own o1 k (fun k hk => (e1 k hk).1), e1⟩, r2.turn k h3, r3.turn k h1, r4.turn k h2, k.below hb (Nat.le_refl _) h4⟩
theorem appK (w : World) {ops : Array Oper} {rest : List Oper} {o : Oper} {a : Act} {Q : Exit → Act → World → Prop} (hgd : o.guard = none) (s y : Operand)
    (ho : o.op = .call { callee := .builtin .append, args := #[s, y], argTypes := #[33, 33] })
    (B : Nat) (v : Value) (xs : List Int) (hs : a.eval s = v) (hown : Own w B v xs) (ad : Addr) (m c : Nat) (ys : List Int) (hx : a.eval y = .slice (some ad) m c) (hm : ys.length = m) (hc : ∀ j x, ys[j]? = some x → w.cell? (ad.add j) = some (.int .i64 x)) (h63 : xs.length + ys.length ≤ 2000000) (hbase : B ≤ w.heap.size) (r : Nat) (hr : (xs ++ ys).length = r)
    (h : ∀ A' c' w', Own w' B (.slice A' r c') (xs ++ ys) → w.grownBy w' v.ownBlock → wpList Try.prog ops Q rest (a.put o.dst (.slice A' r c')) w') : wpList Try.prog ops Q (o :: rest) a w := by
  obtain ⟨i0, hi, hz0, hz1, hz2⟩ := info_parts intInfo
  subst hm
  refine wpList_append_own w hgd s y 33 ho B 3 i0 (.int .i64 0) 1 8 Try.underlying33 hi hz0 hz1 hz2 rfl (by decide) v xs.length (ivs xs) hs hown ad ys.length c (ivs ys) hx (by rw [ivs_length, Nat.mul_one]) ?_ ?_ ?_ ?_ hbase ?_
  · intro j u hj
    unfold ivs at hj
    rw [List.getElem?_map] at hj
    obtain ⟨x, hx, rfl⟩ := Option.map_eq_some_iff.1 hj
    exact hc j x hx
  · intro u hu
    unfold ivs at hu
    obtain ⟨x, _, rfl⟩ := List.mem_map.1 hu
    rfl
  · unfold maxLen; omega
  · omega
  · intro v' w' h1 h2 _
    have e : ivs xs ++ ivs ys = ivs (xs ++ ys) := by simp [ivs]
    rw [e] at h1
    have h1' : Own w' B v' (xs ++ ys) := by unfold Own; rw [List.length_append]; exact h1
    obtain ⟨A', c', e2, _⟩ := h1'.form
    rw [hr] at e2
    subst e2
    exact h A' c' w' h1' h2
set_option maxRecDepth 100000 in
theorem clone_any (g n c lo hi : Nat) (xs : List Int) (hn : xs.length = n) (h6 : n ≤ 100) (w : World) (h : Iv w lo hi (some ⟨g, 0, none⟩) xs) :
    Calls Try.prog 65 #[.slice (some ⟨g, 0, none⟩) n c] w fun e w' => ∃ A' c', e = .returned (.slice A' n c') ∧ Own w' w.heap.size (.slice A' n c') xs ∧ Below w.heap.size w w' := by
  have ho := Own.lit0 w w.heap.size (Nat.le_refl _)
  have h1f : ∀ {w'}, (w.alloc (.cells #[] 3)).grownBy w' (some w.heap.size) → Below w.heap.size (w.alloc (.cells #[] 3)) w' := fun h => ⟨h.os, h.tape, h.output, h.size, fun k hk => h.block k (by simp; omega) (by simp; omega)⟩
  have hc : ∀ j x, xs[j]? = some x → (w.alloc (.cells #[] 3)).cell? ((⟨g, 0, none⟩ : Addr).add j) = some (.int .i64 x) := fun j x hx => by
    obtain ⟨b, off, e, hb1, hb2, hcell⟩ := h (by have := (List.getElem?_eq_some_iff.1 hx).1; omega)
    cases e
    have h2 := hcell j x hx
    rw [show ((⟨g, 0, none⟩ : Addr).add j) = ⟨g, 0 + j, none⟩ from Addr.add_lit _ _ _]
    exact (((Below.refl w.heap.size w).alloc (Nat.le_refl _) _).cell (p := ⟨g, 0 + j, none⟩) (by have := cells_of_cell h2; obtain ⟨o, ho, _⟩ := this; exact (Array.getElem?_eq_some_iff.1 ho).1)).trans h2
  have hnil : (binOp .eql 33 (.slice (some ⟨g, 0, none⟩) n c) (.slice none 0 0)).run Try.prog w = .ok (.bool false) w := Lib.run_eql_slice_nil w _ _ _ _ _ _ _ Try.underlying33
  go_enter Try.func65, Try.ntmps65
  go_wp2_with (refine appK _ rfl _ _ rfl w.heap.size _ [] rfl ho ⟨g, 0, none⟩ n c xs rfl hn hc (by simp; omega) (by simp) n (by simpa using hn) ?_; intro A' c' w' h1 h2)
  go_ret
  exact ⟨A', c', rfl, h1, ((Below.refl w.heap.size w).alloc (Nat.le_refl _) _).trans (h1f h2)⟩
set_option maxRecDepth 100000 in
theorem clipI_any (A : Option Addr) (n c : Nat) (hn : n ≤ c) (hc : c ≤ maxLen) (hA : A = none → n = 0 ∧ c = 0) (w : World) :
    Calls Try.prog 66 #[.slice A n c] w fun e w' => e = .returned (.slice A n n) ∧ w = w' := by
  unfold maxLen at hc
  cases A with
  | none =>
    obtain ⟨rfl, rfl⟩ := hA rfl
    go_enter Try.func66, Try.ntmps66
    go_wp2_with fail
    go_ret
    exact ⟨rfl, rfl⟩
  | some a =>
    go_enter Try.func66, Try.ntmps66
    go_wp2_with fail
    go_ret
    exact ⟨rfl, rfl⟩
theorem best_take {w : World} {L bj bf bb B : Nat} {AJ A : Option Addr} {c c6 n m z : Nat} {F : List Int → Int} {pre : List (List Int)} {x : List Int} {v : Int} {W6 : World} {u u' : Value}
    (hst : bestOf F (pre ++ [x]) = (x, v)) (hxn : x.length = n) (r1 : Row W6 bb 33 [u]) (r2 : Row W6 (bb + 1) 3 [u']) (r3 : Row W6 bj 25 [.slice AJ n c]) (r4 : Row W6 bf 64 [.int .u32 m, .int .i64 z])
    (hb : Below w.heap.size w W6) (ho : Own W6 B (.slice A n c6) x) (hB : L + 6 ≤ B) (hbb : bb + 1 < L) (hw : w.heap.size ≤ bb) (hbj : bj < bb) (hbf : bf < bb) :
    BestI w L bj bf bb AJ c n m z F (pre ++ [x]) ((W6.setCell ⟨bb, 0, none⟩ (.slice A n c6)).setCell ⟨bb + 1, 0, none⟩ (.int .i64 v)) := by
  have ht : TurnIn bb 2 W6 ((W6.setCell ⟨bb, 0, none⟩ (.slice A n c6)).setCell ⟨bb + 1, 0, none⟩ (.int .i64 v)) := (TurnIn.setCell _ _ _ _ _ (by simp)).trans (TurnIn.setCell _ _ _ _ _ (by simp))
  have hx : ∀ k, (Value.slice A n c6).ownBlock = some k → L + 6 ≤ k := fun k hk => by have := (ho.block k hk).1; omega
  unfold BestI
  rw [hst]
  dsimp only
  rw [hxn]
  refine ⟨⟨A, c6, (r1.set 0 _).far (by simp) _, ?_, fun k hk => ?_⟩, (r2.far (by simp) _).set 0 _, r3.turn ht (by omega), r4.turn ht (by omega), ht.below hb (Nat.le_refl _) hw⟩
  · exact turn_own (ho.more (by omega)) ht (fun k hk => by have := hx k hk; omega)
  · have := hx k hk
    omega
theorem PreOk.perm {n : Nat} {x : List Int} (h : PreOk n x) (hn : x.length = n) : permB x = true := by
  unfold permB
  exact decide_eq_true ⟨fun y hy => by have := h.1 y hy; omega, h.2⟩
theorem range_ok (n : Nat) : PreOk n ((List.range n).map fun k : Nat => (k : Int)) := by
  refine ⟨fun x hx => ?_, ?_⟩
  · obtain ⟨k, hk, rfl⟩ := List.mem_map.1 hx
    have := List.mem_range.1 hk
    omega
  · exact List.Pairwise.map (fun k : Nat => (k : Int)) (fun a b h e => h (by omega)) List.nodup_range
theorem planIn_any' {l : List UInt8} {J : List Jb} {x : List Int} (h : planV l J = true) (hx : PreOk J.length x) (hn : x.length = J.length) : planInV l J x = true := by
  unfold planInV
  rw [h, hx.perm hn, hn]
  simp
theorem planIn_first {l : List UInt8} {J : List Jb} (h : planV l J = true) : planInV l J ((List.range J.length).map fun k : Nat => (k : Int)) = true := planIn_any' h (range_ok _) (by simp)
set_option maxRecDepth 100000 in
set_option maxHeartbeats 4000000 in
theorem implBest (s : ByteArray) (AJ : Option Addr) (c : Nat) (J : List Jb) (hs : s.size ≤ maxLen) (hJn : J.length ≤ 1048576) (w : World) (hJ : Jbs w w.heap.size AJ J) :
    Calls Try.prog 27 #[.string s, .slice AJ J.length c] w (SlcPost (bestR s.data.toList J) w) := by
  obtain ⟨n, hn⟩ : ∃ n, n = J.length := ⟨_, rfl⟩
  have H1 := Lib.hid (planable_any s AJ c J hs hJn)
  have Hn := Lib.hid hn
  have HJ := Lib.hid hJ
  have Hs := Lib.hid hs
  rw [← hn] at H1 hJn ⊢
  clear hn hJ hs
  refine (callsIn_wide (n := 6)).1 ?_
  refine callsIn_of_wp_marks Try.func27 rfl trivial ?_ rfl
  simp only [Try.ntmps27, List.size_toArray, List.length_cons, List.length_nil, Nat.reduceAdd, Nat.reduceSub, Array.replicate_succ, Array.replicate_zero, List.push_toArray, List.append_toArray, List.nil_append, List.cons_append]
  gi_wp2
  have hb1 : Below w.heap.size w (w.alloc (Obj.cells #[.slice AJ n c] 25)) := (Below.refl _ w).alloc (Nat.le_refl _) _
  refine ⟨trivial, (callsIn_wide.2 (H1.out _ ((HJ.out.below hb1).more hb1.size))).mono ?_⟩
  rintro e w1 ⟨m, hm, rfl, hb2⟩
  have rj : Row w1 w.heap.size 25 [.slice AJ n c] := (Row.newS _ _ _ rfl rfl).below hb2 (by simp)
  replace hb2 := hb1.trans (hb2.mono hb1.size)
  have hs1 := hb2.size
  have rjc := rj.cellI (i := 0) rfl
  obtain ⟨pv, hpv⟩ : ∃ b, b = planV s.data.toList J := ⟨_, rfl⟩
  have Hpv := Lib.hid hpv
  obtain ⟨z, hz⟩ : ∃ z, z = s.data.toList.length := ⟨_, rfl⟩
  have Hz := Lib.hid hz
  have Hm := Lib.hid hm
  rw [← hpv, ← hz]
  clear hpv hz hm
  cases pv with
  | false =>
    gi_wp2
    refine ⟨_, results_tmp2 rfl _ _ _, ?_⟩
    exact SlcPost.mk (xs := []) ⟨Hpv.out, by rw [← Hpv.out]; rfl⟩ (Own.nil _ _) (hb2.alloc hs1 _)
  | true =>
    obtain ⟨W2, hW2⟩ : ∃ W2, W2 = ((((w1.alloc (Obj.cells #[Value.int IntKind.u32 ↑m, Value.int IntKind.i64 z] 64)).alloc (Obj.cells #[] 3)).alloc (Obj.cells #[Value.slice (some { block := w1.heap.size + 1, off := 0 }) 0 0] 33)).alloc (Obj.cells #[Value.int IntKind.i64 (-1)] 3)) := ⟨_, rfl⟩
    have hs2 : W2.heap.size = w1.heap.size + 4 := by rw [hW2]; simp
    have hB2 : Below w1.heap.size w1 W2 := by rw [hW2]; exact ((((Below.refl _ w1).alloc (Nat.le_refl _) _).alloc (by simp) _).alloc (by simp; omega) _).alloc (by simp; omega) _
    have hjc := (rj.below hB2 rj.lt).cellI (i := 0) rfl
    rw [hW2] at hjc
    gi_wp2
    rw [← hW2]
    refine ⟨trivial, (callsIn_wide.2 (perms_any n W2)).mono ?_⟩
    rintro e W3 ⟨rfl, hW3⟩
    clear hjc
    obtain ⟨F, hF⟩ : ∃ F, F = lossV s.data.toList J := ⟨_, rfl⟩
    have HF := Lib.hid hF
    have hs3 : W3.heap.size = w1.heap.size + 5 := by rw [hW3]; simp; omega
    have hB3 : Below w1.heap.size w1 W3 := by rw [hW3]; exact hB2.alloc hB2.size _
    have hn6 : n ≤ 6 := by obtain ⟨-, -, -, hpf, hlen, -⟩ := planIn_fit (planIn_first Hpv.out.symm); have := hpf.1; rw [Hn.out, ← hlen]; exact this
    have hI0 : BestI w W3.heap.size w.heap.size w1.heap.size (w1.heap.size + 2) AJ c n m z F [] W3 := by
      refine ⟨⟨some ⟨w1.heap.size + 1, 0, none⟩, 0, ?_, ?_, ?_⟩, ?_, rj.below hB3 rj.lt, ?_, hb2.trans (hB3.mono hb2.size)⟩
      · rw [hW3, hW2]; exact ((Row.newS _ _ _ (by simp) rfl).alloc _).alloc _
      · rw [hW3, hW2]
        have := Own.lit0 (w1.alloc (Obj.cells #[Value.int IntKind.u32 ↑m, Value.int IntKind.i64 z] 64)) w.heap.size (by simp; omega)
        rw [World.size_alloc] at this
        exact ((this.alloc _).alloc _).alloc _
      · intro k hk
        obtain rfl : w1.heap.size + 1 = k := by simpa [Value.ownBlock] using hk
        omega
      · rw [hW3, hW2]; exact (Row.newS _ _ _ (by first | rfl | simp | trace_state) rfl).alloc _
      · rw [hW3, hW2]; exact ((((Row.newS _ _ _ rfl rfl).alloc _).alloc _).alloc _).alloc _
    have rn : W3.cell? ⟨w1.heap.size + 4, 0, none⟩ = some (.int .i64 n) := by
      have : Row W3 (w1.heap.size + 4) 3 [.int .i64 n] := by rw [hW3]; exact Row.newS _ _ _ (by omega) rfl
      exact this.cellI rfl
    rw [show W2.heap.size = w1.heap.size + 4 from hs2]
    clear hW2 hW3 rj rjc hF
    gi_wp2
    obtain ⟨hfv, hl30, hjf, -, -, -⟩ := planIn_fit (planIn_first Hpv.out.symm)
    have Hfv := Lib.hid hfv
    have Hl30 := Lib.hid hl30
    have Hjf := Lib.hid hjf
    have hmm : m = maskL s.data.toList := Hm.out Hpv.out.symm
    have hL : w.heap.size ≤ W3.heap.size := by omega
    have HS3 := Lib.hid hs3
    have Hmm := Lib.hid hmm
    clear hfv hl30 hjf
    refine wpIn_rangeFunc_turn (gf := 84) (lb := #[.pointer (some ⟨w1.heap.size + 4, 0, none⟩)]) (by rfl) (enters_of Try.func84 (by kernel_rfl) rfl)
      (perm_iter n (w1.heap.size + 4) hn6 W3 (by omega) rn) (Below.refl _ _) (by omega) (fun _ _ => rfl) (fun D x A B h k => ⟨h.1, h.2.1, k.own h.2.2.1 (by omega), Nat.le_trans h.2.2.2 k.size⟩)
      (BestI w W3.heap.size w.heap.size w1.heap.size (w1.heap.size + 2) AJ c n m z F) (fun pre A B h k => h.turn k (by omega) (by omega) (by omega) hL) hI0
      (fun x => { tmps := #[Value.string s, Value.slice AJ n c, undef, Value.pointer (some { block := w.heap.size, off := 0 }),
                Value.slice none 0 0, Value.bool false, Value.pointer (some { block := w1.heap.size, off := 0 }),
                Value.bool true, Value.pointer (some { block := w1.heap.size + 1 + 1, off := 0 }),
                Value.pointer (some { block := w1.heap.size + 1 + 1 + 1, off := 0 }), .slice (some ⟨W3.heap.size + 2 + 1, 0, none⟩) n n, undef,
                Value.tuple #[Value.agg #[Value.int IntKind.u32 ↑m, Value.int IntKind.i64 ↑z], Value.bool true],
                Value.string s, Value.slice AJ n c,
                Value.tuple #[Value.agg #[Value.int IntKind.u32 ↑m, Value.int IntKind.i64 ↑z], Value.bool true],
                Value.agg #[Value.int IntKind.u32 ↑m, Value.int IntKind.i64 ↑z], Value.bool true, Value.bool true,
                Value.bool false, Value.slice (some { block := w1.heap.size + 1, off := 0 }) 0 0, Value.slice AJ n c,
                Value.int IntKind.i64 ↑n, .func (.func 84) #[] #[.pointer (some ⟨w1.heap.size + 4, 0, none⟩)], .slice (some ⟨W3.heap.size + 2 + 1, 0, none⟩) n n, undef, undef, undef, undef, undef, undef, undef, undef, undef,
                undef, undef, undef, undef, undef, undef, undef], defers := [] }) ?assign ?body ?done
    case assign =>
      intro k l x W K hK
      clear hs3 hmm
      gi_wp2
      exact hK
    case body =>
      rintro k l pre x W ⟨⟨X, c', r1, o1, e1⟩, r2, r3, r4, hB⟩ ⟨hxn, hxp, hxo, hxs⟩
      clear hs3 hmm
      have hPI : planInV s.data.toList J x = true := planIn_any' Hpv.out.symm (by rw [← Hn.out]; exact hxp) (by rw [← Hn.out]; exact hxn)
      obtain ⟨-, -, -, hpf, -, -⟩ := planIn_fit hPI
      have hiv := Lib.hid (Own.iv hxo)
      have hloss := Lib.hid (loss_any s.data.toList (some ⟨W3.heap.size + 2 + 1, 0, none⟩) AJ n c J x Hl30.out hpf Hjf.out (W3.heap.size + 2) W ((HJ.out.below hB).more hB.size) (Own.iv hxo))
      obtain ⟨v, hv⟩ : ∃ v, v = F x := ⟨_, rfl⟩
      have hvF : lossV s.data.toList J x = v := by rw [hv, HF.out]
      rw [hxn, ← Hn.out, ← Hz.out, ← Hmm.out, hvF] at hloss
      obtain ⟨lo, hlo⟩ : ∃ lo, lo = (bestOf F pre).2 := ⟨_, rfl⟩
      have hst : Hid (bestOf F (pre ++ [x]) = if lo < 0 ∨ v < lo then (x, v) else bestOf F pre) := by
        show _ = _
        rw [hlo, hv]
        unfold bestOf
        rw [List.foldl_append]
        rfl
      rw [← hlo] at r2
      have Hlo := Lib.hid hlo
      have r1c := r1.cellI (i := 0) rfl
      have r2c := r2.cellI (i := 0) rfl
      have r3c := r3.cellI (i := 0) rfl
      have r4c := r4.cellI (i := 0) rfl
      have r4d := r4.cellI (i := 1) rfl
      have Hr1 := Lib.hid r1
      have Hr2 := Lib.hid r2
      have Hr3 := Lib.hid r3
      have Hr4 := Lib.hid r4
      have Ho1 := Lib.hid o1
      have He1 := Lib.hid e1
      have Hxn := Lib.hid hxn
      clear r1 r2 r3 r4 o1 e1 hxn hxp hxo hvF hv hlo hPI hpf
      gi_wp2
      refine ⟨trivial, fun h => by simp [Fence.wide] at h, (CallsIn.inRound l (callsIn_wide.2 hloss.out)).mono ?_⟩
      rintro e W5 ⟨rfl, hB5⟩
      have q1 := Hr1.out.below hB5 Hr1.out.lt
      have q2 := Hr2.out.below hB5 Hr2.out.lt
      have q1c := q1.cellI (i := 0) rfl
      have q2c := q2.cellI (i := 0) rfl
      have hs5 := hB5.size
      have hkp5 : KeepIn (w1.heap.size + 4) W3.heap.size 6 W W5 := KeepIn.of_below hB5 (by have := Hr3.out.lt; have := HS3.out; omega) (by omega)
      have hiv5 := Lib.hid ((hiv.out.below hB5 (Nat.le_refl _)).more (Nat.le_refl _) hs5)
      have hcl := Lib.hid (clone_any (W3.heap.size + 2 + 1) n n _ _ x Hxn.out (by omega) W5 hiv5.out)
      have hWL : W3.heap.size + 6 ≤ W5.heap.size := by omega
      by_cases h1 : lo < 0
      · have h1' : Hid (bestOf F (pre ++ [x]) = (x, v)) := by show _ = _; rw [hst.out, if_pos (Or.inl h1)]
        clear r1c r2c r3c r4c r4d
        gi_wp2
        refine ⟨trivial, fun h => by simp [Fence.wide] at h, (CallsIn.inRound l (callsIn_wide.2 hcl.out)).mono ?_⟩
        rintro e W6 ⟨A6, c6, rfl, ho6, hB6⟩
        have p1 := q1.below hB6 q1.lt
        have p2 := q2.below hB6 q2.lt
        have p1c := p1.cellI (i := 0) rfl
        have p2c := p2.cellI (i := 0) rfl
        have p1f := p1.frozen 0
        have p2f := p2.frozen 0
        have hfin := best_take h1'.out Hxn.out p1 p2 ((Hr3.out.below hB5 Hr3.out.lt).below hB6 (Nat.lt_of_lt_of_le Hr3.out.lt hs5)) ((Hr4.out.below hB5 Hr4.out.lt).below hB6 (Nat.lt_of_lt_of_le Hr4.out.lt hs5)) ((hB.trans (hB5.mono hB.size)).trans (hB6.mono (Nat.le_trans hB.size hs5))) ho6 hWL (by have := HS3.out; omega) (by omega) (by omega) (by omega)
        have hkp : KeepIn (w1.heap.size + 4) W3.heap.size 6 W ((W6.setCell ⟨w1.heap.size + 2, 0, none⟩ (.slice A6 n c6)).setCell ⟨w1.heap.size + 2 + 1, 0, none⟩ (.int .i64 v)) := by
          have := HS3.out
          exact ((hkp5.trans (KeepIn.of_below hB6 (by omega) (by omega))).trans (KeepIn.setCell _ _ _ (by simp) (by simp; omega))).trans (KeepIn.setCell _ _ _ (by simp) (by simp; omega))
        clear q1c q2c q1 q2
        gi_wp2
        exact ⟨hkp, hfin⟩
      · by_cases h2 : v < lo
        · have h1' : Hid (bestOf F (pre ++ [x]) = (x, v)) := by show _ = _; rw [hst.out, if_pos (Or.inr h2)]
          clear r1c r2c r3c r4c r4d
          gi_wp2
          refine ⟨trivial, fun h => by simp [Fence.wide] at h, (CallsIn.inRound l (callsIn_wide.2 hcl.out)).mono ?_⟩
          rintro e W6 ⟨A6, c6, rfl, ho6, hB6⟩
          have p1 := q1.below hB6 q1.lt
          have p2 := q2.below hB6 q2.lt
          have p1c := p1.cellI (i := 0) rfl
          have p2c := p2.cellI (i := 0) rfl
          have p1f := p1.frozen 0
          have p2f := p2.frozen 0
          have hfin := best_take h1'.out Hxn.out p1 p2 ((Hr3.out.below hB5 Hr3.out.lt).below hB6 (Nat.lt_of_lt_of_le Hr3.out.lt hs5)) ((Hr4.out.below hB5 Hr4.out.lt).below hB6 (Nat.lt_of_lt_of_le Hr4.out.lt hs5)) ((hB.trans (hB5.mono hB.size)).trans (hB6.mono (Nat.le_trans hB.size hs5))) ho6 hWL (by have := HS3.out; omega) (by omega) (by omega) (by omega)
          have hkp : KeepIn (w1.heap.size + 4) W3.heap.size 6 W ((W6.setCell ⟨w1.heap.size + 2, 0, none⟩ (.slice A6 n c6)).setCell ⟨w1.heap.size + 2 + 1, 0, none⟩ (.int .i64 v)) := by
            have := HS3.out
            exact ((hkp5.trans (KeepIn.of_below hB6 (by omega) (by omega))).trans (KeepIn.setCell _ _ _ (by simp) (by simp; omega))).trans (KeepIn.setCell _ _ _ (by simp) (by simp; omega))
          clear q1c q2c q1 q2
          gi_wp2
          exact ⟨hkp, hfin⟩
        · have h1' : Hid (bestOf F (pre ++ [x]) = bestOf F pre) := by show _ = _; rw [hst.out, if_neg (by omega)]
          have hI : BestI w W3.heap.size w.heap.size w1.heap.size (w1.heap.size + 2) AJ c n m z F (pre ++ [x]) W5 := by
            have h5 : BestI w W3.heap.size w.heap.size w1.heap.size (w1.heap.size + 2) AJ c n m z F pre W5 := BestI.turn (A := W) ⟨⟨X, c', Hr1.out, Ho1.out, He1.out⟩, by rw [← Hlo.out]; exact Hr2.out, Hr3.out, Hr4.out, hB⟩ (TurnIn.of_below hB5) (by have := HS3.out; omega) (by have := HS3.out; omega) (by have := HS3.out; omega) hL
            unfold BestI at h5 ⊢
            rw [h1'.out]
            exact h5
          clear r1c r2c r3c r4c r4d
          gi_wp2
          exact ⟨hkp5, hI⟩
    case done =>
      rintro xs W rfl ⟨⟨X, c', r1, o1, e1⟩, r2, r3, r4, hB⟩ hK
      have r1c := r1.cellI (i := 0) rfl
      clear hs3 hmm
      obtain ⟨xs, hxs⟩ : ∃ xs, xs = (bestOf F (perms n n [])).1 := ⟨_, rfl⟩
      rw [← hxs] at r1c o1
      have hR : Hid (bestR s.data.toList J xs true) := ⟨Hpv.out, by rw [← Hpv.out, if_pos rfl, hxs, HF.out, Hn.out]⟩
      obtain ⟨ln, hln⟩ : ∃ k, k = xs.length := ⟨_, rfl⟩
      have hbd : ln ≤ c' ∧ c' ≤ maxLen := by obtain ⟨A', c'', e, h1, h2⟩ := o1.form; cases e; rw [hln]; exact ⟨h1, h2⟩
      have hA : X = none → ln = 0 ∧ c' = 0 := by
        rintro rfl
        rcases o1.2 with ⟨e, _⟩ | ⟨g, _, _, e, _⟩
        · rw [← hln] at e
          cases e
          exact ⟨rfl, rfl⟩
        · cases e
      have hclip := Lib.hid (clipI_any X ln c' hbd.1 hbd.2 hA W)
      have hO : Hid (Own (W.putObj W3.heap.size (.deferred none)) w.heap.size (.slice X xs.length c') xs) := turn_own (L := W3.heap.size) (c := 6) o1 (TurnIn.putObj _ _ (by omega)) (fun k hk => (e1 k (by rw [← hxs]; exact hk)).1)
      have Hln := Lib.hid hln
      rw [← hln] at r1c
      clear hxs hln hA hbd r1 r2 r3 r4 o1 e1
      gi_wp2
      refine ⟨trivial, (callsIn_wide.2 hclip.out).mono ?_⟩
      rintro e W9 ⟨rfl, rfl⟩
      gi_wp2
      refine ⟨by simp, .inl ⟨_, _, rfl, run_takeDeferred hK, ?_⟩⟩
      refine ⟨_, results_tmp2 rfl _ _ _, ?_⟩
      exact ⟨X, ln, c', xs, true, by rw [← Hln.out]; rfl, hR.out, hO.out, hB.trans (belowK_b (w := w) (Nat.le_refl _) W W3.heap.size _ _ (by omega) hK rfl rfl)⟩
end Go.Proofs.Ytglncadfmomamaa
