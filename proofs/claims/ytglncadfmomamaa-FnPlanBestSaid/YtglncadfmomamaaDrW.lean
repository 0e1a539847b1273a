/- What the laws draw: a forecast and repairs, and a plan. -/
import Derived.Test.YtglncadfmomamaaDrJ
import Derived.Test.YtglncadfmomamaaApp
import Derived.Test.YtglncadfmomamaaIm
import Derived.Test.YtglncadfmomamaaJobs
import Derived.Deep.RegionHeld3
import Derived.Deep.Cut
namespace Go.Proofs.Ytglncadfmomamaa
set_option linter.unusedVariables false
set_option linter.unusedSimpArgs false
open Go.RowKit
def WorkPost (B g p : Nat) (w : World) (e : Ending) (w' : World) : Prop := ∃ (s : ByteArray) (A : Option Addr) (c p' : Nat) (L : List Jb), e = .returned (.tuple #[.string s, .slice A L.length c]) ∧ s.size ≤ 1000 ∧ L.length ≤ 4 ∧ OwnJ w' w.heap.size (.slice A L.length c) L ∧ Rd w' B g p' ∧ p' ≤ p + 400 ∧ w.grownBy w' (some g)
theorem daysV_bd (L : List Jb) : -1 ≤ daysV L ∧ daysV L ≤ 54 := by
  unfold daysV
  split
  · rename_i h
    have := jDays_bound h L.length (Nat.le_refl _)
    rw [List.take_length] at this
    have := (jobsOk_n h).1
    omega
  · omega
set_option maxRecDepth 100000 in
theorem dWork (B g p : Nat) (hp : p ≤ 100) (w : World) (h : Rd w B g p) :
    Calls Try.prog 55 #[.pointer (some ⟨g, 0, none⟩)] w (WorkPost B g p w) := by
  have hgl := h.lt
  have HD := Lib.hid (fun A c L hL w' h => specJobsDays A c L hL w' h)
  have HM := Lib.hid (fun n hn w' => l6Many_any 111 n hn w')
  go_enter Try.func55, Try.ntmps55
  go_wp2_with fail
  refine (dJobs B g p 4 (by omega) (by omega) _ h).mono ?_
  rintro e w1 ⟨A, c, p1, L, rfl, hL4, hown, hr1, hp1, hg1⟩
  have HL4 := Lib.hid hL4
  obtain ⟨n, hn⟩ : ∃ n, n = L.length := ⟨_, rfl⟩
  have Hn := Lib.hid hn
  rw [← hn] at hown hL4 ⊢
  clear hn h
  go_wp2_with fail
  refine (l92Forecast_any _ _ _ _ (by omega) (by omega) _ hr1 (by omega)).mono ?_
  rintro e w2 ⟨s, hs, rfl, q, hq1, hq2, hr2, hg2⟩
  replace hown := hown.kept hg2 (fun j hj => by injection hj with hj; omega)
  replace hg2 := grown_trans hg1 hg2
  clear hg1 hr1
  go_wp2_with fail
  refine (pick_any _ _ _ _ (by omega) (by omega) _ hr2 (by omega)).mono ?_
  rintro e w3 ⟨v, rfl, hv, hr3, hg3⟩
  replace hown := hown.kept hg3 (fun j hj => by injection hj with hj; omega)
  replace hg3 := grown_trans hg2 hg3
  clear hg2 hr2 hv
  by_cases hv0 : 0 < v
  · have hJ : Jbs w3 w3.heap.size A L := hown.jbs
    have hD := HD.out A c L (by have := HL4.out; omega) w3 hJ
    rw [← Hn.out] at hD
    have hbd := daysV_bd L
    obtain ⟨d, hd⟩ : ∃ d, d = daysV L := ⟨_, rfl⟩
    rw [← hd] at hD hbd
    replace hD := Lib.hid hD
    clear hd hJ
    rcases (by omega : d ≤ 0 ∨ 0 < d) with hd0 | hd0
    · have hmx : max (0 : Int) d = 0 := by omega
      go_wp2_with fail
      refine hD.out.mono ?_
      rintro e w4 ⟨rfl, rfl⟩
      go_wp2_with fail
      refine (HM.out 0 (by omega) _).mono ?_
      rintro e w5 ⟨rfl, rfl⟩
      go_wp2_with fail
      go_ret2
      exact ⟨s ++ ⟨#[]⟩, A, c, q + 1, L, by rw [Hn.out]; rfl, by rw [ByteArray.size_append]; show s.size + 0 ≤ 1000; omega, HL4.out, by rw [← Hn.out]; exact hown, hr3, by omega, hg3⟩
    · obtain ⟨m, rfl⟩ := Int.eq_ofNat_of_zero_le (show 0 ≤ d by omega)
      have hmx : max (0 : Int) (m : Int) = m := by omega
      have hm54 : m ≤ 54 := by omega
      go_wp2_with fail
      refine hD.out.mono ?_
      rintro e w4 ⟨rfl, rfl⟩
      go_wp2_with fail
      refine (HM.out m (by omega) _).mono ?_
      rintro e w5 ⟨rfl, rfl⟩
      go_wp2_with fail
      go_ret2
      exact ⟨s ++ ⟨Array.replicate m 111⟩, A, c, q + 1, L, by rw [Hn.out]; rfl, by rw [ByteArray.size_append]; show s.size + (Array.replicate m (111 : UInt8)).size ≤ 1000; rw [Array.size_replicate]; omega, HL4.out, by rw [← Hn.out]; exact hown, hr3, by omega, hg3⟩
  · go_wp2_with fail
    go_ret2
    exact ⟨s, A, c, q + 1, L, by rw [Hn.out]; rfl, by omega, HL4.out, by rw [← Hn.out]; exact hown, hr3, by omega, hg3⟩
/-- The append of a part of a slice of numbers. -/
theorem appI (w : World) {ops : Array Oper} {rest : List Oper} {o : Oper} {a : Act} {Q : Exit → Act → World → Prop} (hgd : o.guard = none) (s y : Operand)
    (ho : o.op = .call { callee := .builtin .append, args := #[s, y], argTypes := #[33, 33] })
    (B : Nat) (v : Value) (xs : List Int) (hs : a.eval s = v) (hown : Own w B v xs) (ad : Addr) (m c : Nat) (ys : List Int) (hx : a.eval y = .slice (some ad) m c) (hm : ys.length = m) (hc : ∀ j x, ys[j]? = some x → w.cell? (ad.add j) = some (.int .i64 x)) (h63 : xs.length + ys.length ≤ 2000000) (hbase : B ≤ w.heap.size) (r : Nat) (hr : (xs ++ ys).length = r)
    (h : ∀ A' c' w', Own w' B (.slice A' r c') (xs ++ ys) → w.grownBy w' v.ownBlock → wpList Try.prog ops Q rest (a.put o.dst (.slice A' r c')) w') : wpList Try.prog ops Q (o :: rest) a w := by
  obtain ⟨i0, hi, hz0, hz1, hz2⟩ := info_parts intInfo
  subst hm
  refine wpList_append_own w hgd s y 33 ho B 3 i0 (.int .i64 0) 1 8 Try.underlying33 hi hz0 hz1 hz2 rfl (by decide) v xs.length (ivs xs) hs hown ad ys.length c (ivs ys) hx (by rw [ivs_length, Nat.mul_one]) ?_ ?_ ?_ ?_ hbase ?_
  · intro j u hj
    unfold ivs at hj
    rw [List.getElem?_map] at hj
    obtain ⟨x, hx, rfl⟩ := Option.map_eq_some_iff.1 hj
    exact hc j x hx
  · intro u hu
    unfold ivs at hu
    obtain ⟨x, _, rfl⟩ := List.mem_map.1 hu
    rfl
  · unfold maxLen; omega
  · omega
  · intro v' w' h1 h2 _
    have e : ivs xs ++ ivs ys = ivs (xs ++ ys) := by simp [ivs]
    rw [e] at h1
    have h1' : Own w' B v' (xs ++ ys) := by unfold Own; rw [List.length_append]; exact h1
    obtain ⟨A', c', e2, _⟩ := h1'.form
    rw [hr] at e2
    subst e2
    exact h A' c' w' h1' h2
theorem OwnJ.apart {w w' : World} {B : Nat} {v : Value} {L : List Jb} {row : Option Nat} (h : OwnJ w B v L) (hg : w.grownBy w' row) (hne : ∀ j, v.ownBlock = some j → row ≠ some j) : OwnJ w' B v L :=
  World.ownsRow.kept h hg (by
    cases hv : v.ownBlock with
    | none => exact .inl rfl
    | some k => exact .inr (fun e => hne k hv e.symm))
def PlanDPost (B g p : Nat) (w : World) (e : Ending) (w' : World) : Prop := ∃ (s : ByteArray) (A : Option Addr) (c : Nat) (L : List Jb) (A2 : Option Addr) (c2 : Nat) (P : List Int), e = .returned (.tuple #[.string s, .slice A L.length c, .slice A2 P.length c2]) ∧ s.size ≤ 1000 ∧ L.length ≤ 4 ∧ P.length ≤ 4 ∧
  OwnJ w' w.heap.size (.slice A L.length c) L ∧ Own w' w.heap.size (.slice A2 P.length c2) P ∧ w.grownBy w' (some g)
theorem planD_mk {B g p : Nat} {w w' : World} {e : Ending} {s : ByteArray} {A A2 : Option Addr} {n c j c2 C : Nat} {L : List Jb} {P : List Int} (he : e = .returned (.tuple #[.string s, .slice A n c, .slice A2 j c2])) (hn : n = L.length) (hj : P.length = j) (hs : s.size ≤ 1000) (hL : n ≤ 4) (hP : j ≤ 4)
    (hoL : OwnJ w' w.heap.size (.slice A n c) L) (hoP : Own w' C (.slice A2 j c2) P) (hC : w.heap.size ≤ C) (hg : w.grownBy w' (some g)) : PlanDPost B g p w e w' := by
  subst hn hj
  exact ⟨s, A, c, L, A2, c2, P, he, hs, hL, hP, hoL, hoP.more hC, hg⟩
set_option maxHeartbeats 4000000 in
set_option maxRecDepth 100000 in
theorem dPlan (B g p : Nat) (hp : p ≤ 100) (w : World) (h : Rd w B g p) :
    Calls Try.prog 76 #[.pointer (some ⟨g, 0, none⟩)] w (PlanDPost B g p w) := by
  have hgl := h.lt
  have hBg : B ≤ g := h.ge
  go_enter Try.func76, Try.ntmps76
  go_wp2_with fail
  refine (dWork B g p hp _ h).mono ?_
  rintro e w1 ⟨s, A, c, p1, L, rfl, hs, hL4, hoL, hr1, hp1, hg1⟩
  obtain ⟨n, hn⟩ : ∃ n, n = L.length := ⟨_, rfl⟩
  have Hn := Lib.hid hn
  rw [← hn] at hoL hL4 ⊢
  have hs1 := hg1.size
  have HbJ : Hid (∀ j, Value.ownBlock (.slice A n c) = some j → j < w1.heap.size) := fun j hj => (hoL.block j hj).2
  have HkJ : Hid (∀ (w1 w2 : World), OwnJ w1 w.heap.size (.slice A n c) L → w1.grownBy w2 (some g) → OwnJ w2 w.heap.size (.slice A n c) L) := fun _ _ ho hg => ho.kept hg (fun j hj => by injection hj with hj; omega)
  clear hn h
  go_wp2_with fail
  go_loopw [7, 8] (fun v i wr => ∃ (j g0 c' p' : Nat) (P : List Int), j ≤ n ∧ i = .int .i64 j ∧ v = .slice (some ⟨g0, 0, none⟩) j c' ∧ Hid (P.length = j) ∧ Own wr w1.heap.size (.slice (some ⟨g0, 0, none⟩) j c') P ∧ OwnJ wr w.heap.size (.slice A n c) L ∧ Rd wr B g p' ∧ p' ≤ p + 400 + j ∧ w.grownBy wr (some g) ∧ w1.heap.size ≤ wr.heap.size) (fun _ i _ => n - (intOf i).toNat)
  case atStart => exact ⟨0, _, _, p1, [], by omega, rfl, rfl, rfl, Own.lit0 w1 _ (Nat.le_refl _), hoL.alloc _, hr1.alloc _, by omega, grown_alloc hg1 _, by simp⟩
  case round =>
    clear hoL hr1 hg1
    obtain ⟨j, g0, c', p', P, hj, rfl, rfl, hPj, hoP, hoL, hr, hpp, hg, hsz⟩ := hrel
    have hcc : j ≤ c' ∧ c' ≤ maxLen := by
      obtain ⟨A', c2, e, h1, h2⟩ := hoP.form
      injection e with e1 e2 e3
      subst e3
      exact ⟨by rw [← hPj.out]; exact h1, h2⟩
    obtain ⟨hcj, hcm⟩ := hcc
    have hcm' := hcm
    unfold maxLen at hcm'
    have hg0 : w1.heap.size ≤ g0 ∧ g0 < wr.heap.size := hoP.block g0 rfl
    by_cases hjn : j < n
    · go_wp2_with fail
      refine (pick_any B g p' ((j : Int) + 1) (by omega) (by omega) _ hr (by omega)).mono ?_
      rintro e w4 ⟨a, rfl, ⟨ha0, ha1, _⟩, hr4, hg4⟩
      have ha5 := ha1 (by omega)
      have hoP4 := hoP.kept hg4 (fun j hj => by injection hj with hj; omega)
      have hoL4 := HkJ.out _ _ hoL hg4
      have hsz4 : w1.heap.size ≤ w4.heap.size := Nat.le_trans hsz hg4.size
      have hg04 : g0 < w4.heap.size := Nat.lt_of_lt_of_le hg0.2 hg4.size
      replace hg4 := grown_trans hg hg4
      obtain ⟨at_, rfl⟩ := Int.eq_ofNat_of_zero_le ha0
      have hat : at_ ≤ j := by omega
      have hpc : Hid (∀ i x, P[i]? = some x → w4.cell? ⟨g0, i, none⟩ = some (.int .i64 x)) := fun i x hx => hoP4.cell hx
      obtain ⟨d, rfl⟩ : ∃ d, j = at_ + d := ⟨j - at_, by omega⟩
      have hpc1 : Hid (∀ (o : Obj) i x, (P.take at_)[i]? = some x → (w4.alloc o).cell? (Addr.add ⟨g0, 0, none⟩ i) = some (.int .i64 x)) := fun o i x hx => by
        rw [Addr.add_lit, Nat.zero_add]
        refine (World.cell?_alloc_lt w4 o _ hg04).trans (hpc.out i x ?_)
        rw [List.getElem?_take] at hx
        split at hx
        · exact hx
        · cases hx
      have hl1 : Hid ((P.take at_).length = at_) := by show _ = _; rw [List.length_take, hPj.out]; omega
      have hl2 : Hid ((P.drop at_).length = d) := by show _ = _; rw [List.length_drop, hPj.out]; omega
      clear ha1 hoP hoL hr hg
      go_upto_region 8 with (at_builtin; refine appI _ rfl _ _ rfl w4.heap.size _ [] rfl (Own.lit0 w4 w4.heap.size (Nat.le_refl _)) ⟨g0, 0, none⟩ at_ c' (P.take at_) rfl hl1.out (hpc1.out _) (by rw [hl1.out]; simp; omega) (by simp) at_ (by simpa using hl1.out) ?_; intro A5 c5 w5 ho5 hg5)
      have hb5 : Below w4.heap.size w4 w5 := ((Below.refl _ _).alloc (Nat.le_refl _) _).grown hg5 (by simp) (fun k hk => (Own.lit0 w4 w4.heap.size (Nat.le_refl _)).block k hk |>.1)
      have hs5 := hb5.size
      rw [List.nil_append] at ho5
      clear hg5
      go_upto_region 9 with (at_builtin; refine app1 _ rfl _ _ rfl w4.heap.size _ _ rfl (Own.alloc ho5 (Obj.cells #[.int .i64 ((at_ : Int) + (d : Int))] 3)) at_ hl1.out ⟨w5.heap.size, 0, none⟩ ((at_ : Int) + (d : Int)) rfl (alloc1_cell rfl) (by omega) (by simp; omega) ?_; intro A6 c6 w6 ho6 hg6)
      have hb6 : Below w4.heap.size w4 w6 := (hb5.alloc hs5 _).grown hg6 (by simp; omega) (fun k hk => (Own.alloc ho5 (Obj.cells #[.int .i64 ((at_ : Int) + (d : Int))] 3)).block k hk |>.1)
      have hs6 := hb6.size
      have hl6 : Hid ((P.take at_ ++ [(at_ : Int) + (d : Int)]).length = at_ + 1) := by show _ = _; rw [List.length_append, hl1.out]; rfl
      clear hg6 ho5 hb5
      have hpc2 : Hid (∀ i x, (P.drop at_)[i]? = some x → w6.cell? (Addr.add ⟨g0, at_, none⟩ i) = some (.int .i64 x)) := fun i x hx => by
        rw [Addr.add_lit]
        exact (hb6.cell (p := ⟨g0, _, none⟩) hg04).trans (hpc.out _ x (by rw [List.getElem?_drop] at hx; exact hx))
      by_cases hce : c' = at_
      · subst hce
        obtain rfl : d = 0 := by omega
        have hnil : P.drop c' = [] := List.drop_of_length_le (by rw [hPj.out]; omega)
        rw [hnil] at hl2
        clear hpc hpc1 hpc2 hnil
        go_wp2_with (at_builtin; refine appI _ rfl _ _ rfl w4.heap.size _ _ rfl ho6 ⟨g0, 0, none⟩ 0 0 [] rfl rfl (fun j x hx => by cases hx) (by rw [hl6.out]; simp; omega) hs6 (c' + 1) (by rw [List.append_nil]; exact hl6.out) ?_; intro A7 c7 w7 ho7 hg7)
        rw [List.append_nil] at ho7
        have hb7 : Below w4.heap.size w4 w7 := hb6.grown hg7 hs6 (fun k hk => ho6.block k hk |>.1)
        have hr7 : Rd w7 B g (p' + 1) := hr4.grown (grownBy_of_below hb7 (Nat.le_refl _)) (by simp) (by simp)
        have hoL7 := hoL4.kept (grownBy_of_below hb7 (Nat.le_refl _)) (by simp)
        have hg7' := grown_own hg4 (grownBy_of_below hb7 (Nat.le_refl _)) (by simp)
        replace ho7 := ho7.more hsz4
        have hsz7 := Nat.le_trans hsz4 hb7.size
        obtain ⟨g7, rfl, _, _⟩ := ho7.some (by rw [hl6.out]; omega)
        clear hg7 ho6 hb6
        go_wp2_with fail
        go_roundw
        case rel => exact ⟨c' + 1, g7, c7, p' + 1, _, by omega, by go_num, rfl, hl6.out, ho7, hoL7, hr7, by omega, hg7', hsz7⟩
        case measure => simp [intOf]; omega
      · go_wp2_with (at_builtin; refine appI _ rfl _ _ rfl w4.heap.size _ _ rfl ho6 ⟨g0, at_, none⟩ d (c' - at_) (P.drop at_) rfl hl2.out hpc2.out (by rw [hl6.out, hl2.out]; omega) hs6 (at_ + 1 + d) (by rw [List.length_append, hl6.out, hl2.out]) ?_; intro A7 c7 w7 ho7 hg7)
        have hl7 : Hid ((P.take at_ ++ [(at_ : Int) + (d : Int)] ++ P.drop at_).length = at_ + d + 1) := by show _ = _; rw [List.length_append, hl6.out, hl2.out]; omega
        have hb7 : Below w4.heap.size w4 w7 := hb6.grown hg7 hs6 (fun k hk => ho6.block k hk |>.1)
        have hr7 : Rd w7 B g (p' + 1) := hr4.grown (grownBy_of_below hb7 (Nat.le_refl _)) (by simp) (by simp)
        have hoL7 := hoL4.kept (grownBy_of_below hb7 (Nat.le_refl _)) (by simp)
        have hg7' := grown_own hg4 (grownBy_of_below hb7 (Nat.le_refl _)) (by simp)
        replace ho7 := ho7.more hsz4
        have hsz7 := Nat.le_trans hsz4 hb7.size
        obtain ⟨g7, rfl, _, _⟩ := ho7.some (by rw [hl7.out]; omega)
        have he7 : at_ + 1 + d = at_ + d + 1 := by omega
        rw [he7] at ho7
        clear hg7 ho6 hb6 hpc hpc1 hpc2
        go_wp2_with fail
        go_roundw
        case rel => exact ⟨at_ + d + 1, g7, c7, p' + 1, _, by omega, by go_num, by rw [← he7], hl7.out, ho7, hoL7, hr7, by omega, hg7', hsz7⟩
        case measure => simp [intOf]; omega
    · obtain rfl : j = n := by omega
      by_cases hj0 : j = 0
      · subst hj0
        go_wp2_with fail
        go_ret3
        exact planD_mk rfl Hn.out hPj.out hs (by omega) (by omega) hoL hoP hs1 hg
      · obtain ⟨k, rfl⟩ : ∃ k, j = k + 1 := ⟨j - 1, by omega⟩
        have hk4 : k + 1 ≤ 4 := hL4
        go_wp2_with fail
        refine (pick_any B g p' 16 (by omega) (by omega) _ hr (by omega)).mono ?_
        rintro e w4 ⟨a, rfl, ⟨ha0, ha1, _⟩, hr4, hg4⟩
        have hoP4 := hoP.kept hg4 (fun j hj => by injection hj with hj; omega)
        have hoL4 := HkJ.out _ _ hoL hg4
        have hsz4 : w1.heap.size ≤ w4.heap.size := Nat.le_trans hsz hg4.size
        have hg04 : g0 < w4.heap.size := Nat.lt_of_lt_of_le hg0.2 hg4.size
        replace hg4 := grown_trans hg hg4
        clear hoP hoL hr hg ha1
        by_cases ha : a = 0
        · subst ha
          obtain ⟨x, hx⟩ : ∃ x, P[k]? = some x := ⟨P[k]'(by rw [hPj.out]; omega), List.getElem?_eq_getElem _⟩
          have hcx := hoP4.cell hx
          have hc0 : ∃ y, w4.cell? ⟨g0, 0, none⟩ = some (.int .i64 y) := ⟨_, hoP4.cell (List.getElem?_eq_getElem (by rw [hPj.out]; omega))⟩
          obtain ⟨y0, hc0⟩ := hc0
          have hf0 := hoP4.frozen 0
          have hPx := Lib.hid hx
          clear hx hc0 hf0
          go_wp2_with fail
          have hwk : IntKind.i64.wrap (k : Int) = k := IntWalk.i64_in _ (by omega)
          have hwk1 : (0 : Int) ≤ (k : Int) := by omega
          have hwk2 : (k : Int) < (k : Int) + 1 := by omega
          have HP3 := Lib.hid (fun p w (h : Rd w B g p) (hp : p ≤ 1000000) => pick_any B g p 3 (by omega) (by omega) w h hp)
          refine wp_region_held_drew (S := fun _ => True) (by kernel_rfl) trivial (fun hHeld => ?_)
          replace hr4 : Rd w4.drew B g (p' + 1) := hr4
          replace hoP4 : Own w4.drew w1.heap.size (.slice (some ⟨g0, 0, none⟩) (k + 1) c') P := hoP4
          replace hoL4 : OwnJ w4.drew w.heap.size (.slice A (k + 1) c) L := hoL4
          replace hg4 : w.grownBy w4.drew (some g) := grown_drewN hg4 1
          replace hcx : w4.drew.cell? ⟨g0, k, none⟩ = some (.int .i64 x) := hcx
          replace hg04 : g0 < w4.drew.heap.size := hg04
          replace hsz4 : w1.heap.size ≤ w4.drew.heap.size := hsz4
          generalize w4.drew = w4 at hr4 hoP4 hoL4 hg4 hcx hg04 hsz4 ⊢
          refine wpAnyH_take (i := 0) (v := .slice (some ⟨g0, 0, none⟩) (k + 1) c') rfl (by kernel_rfl) (by kernel_rfl) (by kernel_rfl) (fun _ _ _ h => h) (Or.inl ⟨by kernel_rfl, fun w hSw => by (try dsimp only at hSw); go_simp⟩) hHeld ?_
          try simp only [Act.put, List.setIfInBounds_toArray, List.set_cons_zero, List.set_cons_succ]
          refine wpAnyH_take (i := 1) (v := .slice (some ⟨g0, 0, none⟩) (k + 1) c') rfl (by kernel_rfl) (by kernel_rfl) (by kernel_rfl) (fun _ _ _ h => h) (Or.inl ⟨by kernel_rfl, fun w hSw => by (try dsimp only at hSw); go_simp⟩) hHeld ?_
          try simp only [Act.put, List.setIfInBounds_toArray, List.set_cons_zero, List.set_cons_succ]
          refine wpAnyH_take (i := 2) (v := .int .i64 ((k : Int) + 1)) rfl (by kernel_rfl) (by kernel_rfl) (by kernel_rfl) (fun _ _ _ h => h) (Or.inl ⟨by kernel_rfl, fun w hSw => by (try dsimp only at hSw); go_simp⟩) hHeld ?_
          try simp only [Act.put, List.setIfInBounds_toArray, List.set_cons_zero, List.set_cons_succ]
          refine wpAnyH_take (i := 3) (v := .slice (some ⟨g0, 0, none⟩) (k + 1) c') rfl (by kernel_rfl) (by kernel_rfl) (by kernel_rfl) (fun _ _ _ h => h) (Or.inl ⟨by kernel_rfl, fun w hSw => by (try dsimp only at hSw); go_simp⟩) hHeld ?_
          try simp only [Act.put, List.setIfInBounds_toArray, List.set_cons_zero, List.set_cons_succ]
          refine wpAnyH_take (i := 4) (v := .slice (some ⟨g0, 0, none⟩) (k + 1) c') rfl (by kernel_rfl) (by kernel_rfl) (by kernel_rfl) (fun _ _ _ h => h) (Or.inl ⟨by kernel_rfl, fun w hSw => by (try dsimp only at hSw); go_simp⟩) hHeld ?_
          try simp only [Act.put, List.setIfInBounds_toArray, List.set_cons_zero, List.set_cons_succ]
          refine wpAnyH_take (i := 5) (v := .int .i64 ((k : Int) + 1)) rfl (by kernel_rfl) (by kernel_rfl) (by kernel_rfl) (fun _ _ _ h => h) (Or.inl ⟨by kernel_rfl, fun w hSw => by (try dsimp only at hSw); go_simp⟩) hHeld ?_
          try simp only [Act.put, List.setIfInBounds_toArray, List.set_cons_zero, List.set_cons_succ]
          refine wpAnyH_take (i := 6) (v := .int .i64 k) rfl (by kernel_rfl) (by kernel_rfl) (by kernel_rfl) (fun _ _ _ h => h) (Or.inl ⟨by kernel_rfl, fun w hSw => by (try dsimp only at hSw); go_simp⟩) hHeld ?_
          try simp only [Act.put, List.setIfInBounds_toArray, List.set_cons_zero, List.set_cons_succ]
          refine wpAnyH_take (i := 7) (v := .pointer (some ⟨g0, k, none⟩)) rfl (by kernel_rfl) (by kernel_rfl) (by kernel_rfl) (fun _ _ _ h => h) (Or.inl ⟨by kernel_rfl, fun w hSw => by (try dsimp only at hSw); go_simp⟩) hHeld ?_
          try simp only [Act.put, List.setIfInBounds_toArray, List.set_cons_zero, List.set_cons_succ]
          refine wpAnyH_take (i := 10) (v := .pointer (some ⟨g, 0, none⟩)) rfl (by kernel_rfl) (by kernel_rfl) (by kernel_rfl) (fun _ _ _ h => h) (Or.inl ⟨by kernel_rfl, fun w hSw => by (try dsimp only at hSw); go_simp⟩) hHeld ?_
          try simp only [Act.put, List.setIfInBounds_toArray, List.set_cons_zero, List.set_cons_succ]
          refine wpAnyH_ready (rs := [8, 11]) (by kernel_rfl) (by simp) ?_
          refine AllReadyH.cons rfl (fun K hK => ?_) (AllReadyH.cons rfl (fun K hK => ?_) (AllReadyH.nil))
          · go_simp
            refine hK.out _ _ trivial (fun hHeld => ?_)
            clear hK
            try simp only [Act.put, List.setIfInBounds_toArray, List.set_cons_zero, List.set_cons_succ]
            refine wpAnyH_ready (rs := [9, 11]) (by kernel_rfl) (by simp) ?_
            refine AllReadyH.cons rfl (fun K hK => ?_) (AllReadyH.cons rfl (fun K hK => ?_) (AllReadyH.nil))
            · go_simp
              refine hK.out _ _ trivial (fun hHeld => ?_)
              clear hK
              try simp only [Act.put, List.setIfInBounds_toArray, List.set_cons_zero, List.set_cons_succ]
              refine wpAnyH_ready (rs := [11]) (by kernel_rfl) (by simp) ?_
              refine AllReadyH.cons rfl (fun K hK => ?_) (AllReadyH.nil)
              go_simp
              go_at_call 80
              refine (HP3.out _ _ (hr4.alloc _) (by omega)).mono ?_
              rintro e w5 ⟨v, rfl, ⟨hv0, hv1, _⟩, hr5, hg5⟩
              have hv3 := hv1 (by omega)
              clear hv1
              show K _ w5
              refine hK.out _ _ trivial (fun hHeld => ?_)
              clear hK
              try simp only [Act.put, List.setIfInBounds_toArray, List.set_cons_zero, List.set_cons_succ]
              have ho5 := (hoP4.alloc (Obj.cells #[.int .i64 (-1), .int .i64 ((k : Int) + 1), .int .i64 x] 3)).kept (grown_trans (grown_refl _ _) hg5) (fun j hj => by injection hj with hj; omega)
              have hoL5 := (hoL4.alloc (Obj.cells #[.int .i64 (-1), .int .i64 ((k : Int) + 1), .int .i64 x] 3)).kept hg5 (fun j hj => by injection hj with hj; omega)
              have row5 := (Row.newS w4 3 #[.int .i64 (-1), .int .i64 ((k : Int) + 1), .int .i64 x] (g := w4.heap.size) rfl rfl).grown hg5 (by simp; omega)
              have hg5' := grown_trans (grown_alloc hg4 (Obj.cells #[.int .i64 (-1), .int .i64 ((k : Int) + 1), .int .i64 x] 3)) hg5
              rcases (by omega : v = 0 ∨ v = 1 ∨ v = 2) with rfl | rfl | rfl
              · have hcq := row5.cellI (i := 0) rfl
                have hfq := ho5.frozen 0
                obtain ⟨y0, hc0⟩ : ∃ y, w5.cell? ⟨g0, 0, none⟩ = some (.int .i64 y) := ⟨_, ho5.cell (List.getElem?_eq_getElem (by rw [hPj.out]; omega))⟩
                refine wpAnyH_take (i := 12) (v := .pointer (some ⟨w4.heap.size, 0, none⟩)) rfl (by kernel_rfl) (by kernel_rfl) (by kernel_rfl) (fun _ _ _ h => h) (Or.inl ⟨by kernel_rfl, fun w hSw => by (try dsimp only at hSw); go_simp⟩) hHeld ?_
                try simp only [Act.put, List.setIfInBounds_toArray, List.set_cons_zero, List.set_cons_succ]
                refine wpAnyH_ready (rs := [13]) (by kernel_rfl) (by simp) ?_
                refine AllReadyH.cons rfl (fun K hK => ?_) (AllReadyH.nil)
                go_simp
                refine hK.out _ _ trivial (fun hHeld => ?_)
                clear hK
                try simp only [Act.put, List.setIfInBounds_toArray, List.set_cons_zero, List.set_cons_succ]
                refine wpAnyH_take (i := 14) (v := .pointer (some ⟨g0, 0, none⟩)) rfl (by kernel_rfl) (by kernel_rfl) (by kernel_rfl) (fun _ _ _ h => h) (Or.inl ⟨by kernel_rfl, fun w hSw => by (try dsimp only at hSw); go_simp⟩) hHeld ?_
                try simp only [Act.put, List.setIfInBounds_toArray, List.set_cons_zero, List.set_cons_succ]
                refine wpAnyH_ready (rs := [15]) (by kernel_rfl) (by simp) ?_
                refine AllReadyH.cons rfl (fun K hK => ?_) (AllReadyH.nil)
                go_simp
                refine hK.out _ _ trivial (fun hHeld => ?_)
                clear hK
                refine wpAnyH_done (by kernel_rfl) ?_ _
                try simp only [Act.put, List.setIfInBounds_toArray, List.set_cons_zero, List.set_cons_succ]
                have hst := ho5.stored 0 (-1) (by rw [hPj.out]; omega)
                go_wp2_with fail
                go_ret3
                exact planD_mk (P := P.set 0 (-1)) rfl Hn.out (by rw [List.length_set]; exact hPj.out) hs (by omega) (by omega) (hoL5.apart (grown_set _ g0 0 (.int .i64 (-1))) (fun j hj e => by injection e with e; have := HbJ.out j hj; omega)) hst hs1 (grown_own hg5' (grown_set _ g0 0 (.int .i64 (-1))) (fun j hj => by injection hj with hj; omega))
              · have hcq := row5.cellI (i := 1) rfl
                have hfq := ho5.frozen 0
                obtain ⟨y0, hc0⟩ : ∃ y, w5.cell? ⟨g0, 0, none⟩ = some (.int .i64 y) := ⟨_, ho5.cell (List.getElem?_eq_getElem (by rw [hPj.out]; omega))⟩
                refine wpAnyH_take (i := 12) (v := .pointer (some ⟨w4.heap.size, 1, none⟩)) rfl (by kernel_rfl) (by kernel_rfl) (by kernel_rfl) (fun _ _ _ h => h) (Or.inl ⟨by kernel_rfl, fun w hSw => by (try dsimp only at hSw); go_simp⟩) hHeld ?_
                try simp only [Act.put, List.setIfInBounds_toArray, List.set_cons_zero, List.set_cons_succ]
                refine wpAnyH_ready (rs := [13]) (by kernel_rfl) (by simp) ?_
                refine AllReadyH.cons rfl (fun K hK => ?_) (AllReadyH.nil)
                go_simp
                refine hK.out _ _ trivial (fun hHeld => ?_)
                clear hK
                try simp only [Act.put, List.setIfInBounds_toArray, List.set_cons_zero, List.set_cons_succ]
                refine wpAnyH_take (i := 14) (v := .pointer (some ⟨g0, 0, none⟩)) rfl (by kernel_rfl) (by kernel_rfl) (by kernel_rfl) (fun _ _ _ h => h) (Or.inl ⟨by kernel_rfl, fun w hSw => by (try dsimp only at hSw); go_simp⟩) hHeld ?_
                try simp only [Act.put, List.setIfInBounds_toArray, List.set_cons_zero, List.set_cons_succ]
                refine wpAnyH_ready (rs := [15]) (by kernel_rfl) (by simp) ?_
                refine AllReadyH.cons rfl (fun K hK => ?_) (AllReadyH.nil)
                go_simp
                refine hK.out _ _ trivial (fun hHeld => ?_)
                clear hK
                refine wpAnyH_done (by kernel_rfl) ?_ _
                try simp only [Act.put, List.setIfInBounds_toArray, List.set_cons_zero, List.set_cons_succ]
                have hst := ho5.stored 0 ((k : Int) + 1) (by rw [hPj.out]; omega)
                go_wp2_with fail
                go_ret3
                exact planD_mk (P := P.set 0 ((k : Int) + 1)) rfl Hn.out (by rw [List.length_set]; exact hPj.out) hs (by omega) (by omega) (hoL5.apart (grown_set _ g0 0 (.int .i64 ((k : Int) + 1))) (fun j hj e => by injection e with e; have := HbJ.out j hj; omega)) hst hs1 (grown_own hg5' (grown_set _ g0 0 (.int .i64 ((k : Int) + 1))) (fun j hj => by injection hj with hj; omega))
              · have hcq := row5.cellI (i := 2) rfl
                have hfq := ho5.frozen 0
                obtain ⟨y0, hc0⟩ : ∃ y, w5.cell? ⟨g0, 0, none⟩ = some (.int .i64 y) := ⟨_, ho5.cell (List.getElem?_eq_getElem (by rw [hPj.out]; omega))⟩
                refine wpAnyH_take (i := 12) (v := .pointer (some ⟨w4.heap.size, 2, none⟩)) rfl (by kernel_rfl) (by kernel_rfl) (by kernel_rfl) (fun _ _ _ h => h) (Or.inl ⟨by kernel_rfl, fun w hSw => by (try dsimp only at hSw); go_simp⟩) hHeld ?_
                try simp only [Act.put, List.setIfInBounds_toArray, List.set_cons_zero, List.set_cons_succ]
                refine wpAnyH_ready (rs := [13]) (by kernel_rfl) (by simp) ?_
                refine AllReadyH.cons rfl (fun K hK => ?_) (AllReadyH.nil)
                go_simp
                refine hK.out _ _ trivial (fun hHeld => ?_)
                clear hK
                try simp only [Act.put, List.setIfInBounds_toArray, List.set_cons_zero, List.set_cons_succ]
                refine wpAnyH_take (i := 14) (v := .pointer (some ⟨g0, 0, none⟩)) rfl (by kernel_rfl) (by kernel_rfl) (by kernel_rfl) (fun _ _ _ h => h) (Or.inl ⟨by kernel_rfl, fun w hSw => by (try dsimp only at hSw); go_simp⟩) hHeld ?_
                try simp only [Act.put, List.setIfInBounds_toArray, List.set_cons_zero, List.set_cons_succ]
                refine wpAnyH_ready (rs := [15]) (by kernel_rfl) (by simp) ?_
                refine AllReadyH.cons rfl (fun K hK => ?_) (AllReadyH.nil)
                go_simp
                refine hK.out _ _ trivial (fun hHeld => ?_)
                clear hK
                refine wpAnyH_done (by kernel_rfl) ?_ _
                try simp only [Act.put, List.setIfInBounds_toArray, List.set_cons_zero, List.set_cons_succ]
                have hst := ho5.stored 0 x (by rw [hPj.out]; omega)
                go_wp2_with fail
                go_ret3
                exact planD_mk (P := P.set 0 x) rfl Hn.out (by rw [List.length_set]; exact hPj.out) hs (by omega) (by omega) (hoL5.apart (grown_set _ g0 0 (.int .i64 x)) (fun j hj e => by injection e with e; have := HbJ.out j hj; omega)) hst hs1 (grown_own hg5' (grown_set _ g0 0 (.int .i64 x)) (fun j hj => by injection hj with hj; omega))
            · go_simp
              go_at_call 80
              refine (HP3.out _ _ hr4 (by omega)).mono ?_
              rintro e w5 ⟨v, rfl, ⟨hv0, hv1, _⟩, hr5, hg5⟩
              have hv3 := hv1 (by omega)
              clear hv1
              show K _ w5
              refine hK.out _ _ trivial (fun hHeld => ?_)
              clear hK
              try simp only [Act.put, List.setIfInBounds_toArray, List.set_cons_zero, List.set_cons_succ]
              have ho5 := hoP4.kept hg5 (fun j hj => by injection hj with hj; omega)
              have hoL5 := hoL4.kept hg5 (fun j hj => by injection hj with hj; omega)
              have hg5' := grown_trans hg4 hg5
              have hcx5 := ho5.cell hPx.out
              refine wpAnyH_ready (rs := [9]) (by kernel_rfl) (by simp) ?_
              refine AllReadyH.cons rfl (fun K hK => ?_) (AllReadyH.nil)
              go_simp
              refine hK.out _ _ trivial (fun hHeld => ?_)
              clear hK
              try simp only [Act.put, List.setIfInBounds_toArray, List.set_cons_zero, List.set_cons_succ]
              have ho6 := ho5.alloc (Obj.cells #[.int .i64 (-1), .int .i64 ((k : Int) + 1), .int .i64 x] 3)
              have hoL6 := hoL5.alloc (Obj.cells #[.int .i64 (-1), .int .i64 ((k : Int) + 1), .int .i64 x] 3)
              have row6 := Row.newS w5 3 #[.int .i64 (-1), .int .i64 ((k : Int) + 1), .int .i64 x] (g := w5.heap.size) rfl rfl
              have hg6' := grown_alloc hg5' (Obj.cells #[.int .i64 (-1), .int .i64 ((k : Int) + 1), .int .i64 x] 3)
              rcases (by omega : v = 0 ∨ v = 1 ∨ v = 2) with rfl | rfl | rfl
              · have hcq := row6.cellI (i := 0) rfl
                have hfq := ho6.frozen 0
                obtain ⟨y0, hc0⟩ : ∃ y, (w5.alloc (Obj.cells #[.int .i64 (-1), .int .i64 ((k : Int) + 1), .int .i64 x] 3)).cell? ⟨g0, 0, none⟩ = some (.int .i64 y) := ⟨_, ho6.cell (List.getElem?_eq_getElem (by rw [hPj.out]; omega))⟩
                refine wpAnyH_take (i := 12) (v := .pointer (some ⟨w5.heap.size, 0, none⟩)) rfl (by kernel_rfl) (by kernel_rfl) (by kernel_rfl) (fun _ _ _ h => h) (Or.inl ⟨by kernel_rfl, fun w hSw => by (try dsimp only at hSw); go_simp⟩) hHeld ?_
                try simp only [Act.put, List.setIfInBounds_toArray, List.set_cons_zero, List.set_cons_succ]
                refine wpAnyH_ready (rs := [13]) (by kernel_rfl) (by simp) ?_
                refine AllReadyH.cons rfl (fun K hK => ?_) (AllReadyH.nil)
                go_simp
                refine hK.out _ _ trivial (fun hHeld => ?_)
                clear hK
                try simp only [Act.put, List.setIfInBounds_toArray, List.set_cons_zero, List.set_cons_succ]
                refine wpAnyH_take (i := 14) (v := .pointer (some ⟨g0, 0, none⟩)) rfl (by kernel_rfl) (by kernel_rfl) (by kernel_rfl) (fun _ _ _ h => h) (Or.inl ⟨by kernel_rfl, fun w hSw => by (try dsimp only at hSw); go_simp⟩) hHeld ?_
                try simp only [Act.put, List.setIfInBounds_toArray, List.set_cons_zero, List.set_cons_succ]
                refine wpAnyH_ready (rs := [15]) (by kernel_rfl) (by simp) ?_
                refine AllReadyH.cons rfl (fun K hK => ?_) (AllReadyH.nil)
                go_simp
                refine hK.out _ _ trivial (fun hHeld => ?_)
                clear hK
                refine wpAnyH_done (by kernel_rfl) ?_ _
                try simp only [Act.put, List.setIfInBounds_toArray, List.set_cons_zero, List.set_cons_succ]
                have hst := ho6.stored 0 (-1) (by rw [hPj.out]; omega)
                go_wp2_with fail
                go_ret3
                exact planD_mk (P := P.set 0 (-1)) rfl Hn.out (by rw [List.length_set]; exact hPj.out) hs (by omega) (by omega) (hoL6.apart (grown_set _ g0 0 (.int .i64 (-1))) (fun j hj e => by injection e with e; have := HbJ.out j hj; omega)) hst hs1 (grown_own hg6' (grown_set _ g0 0 (.int .i64 (-1))) (fun j hj => by injection hj with hj; omega))
              · have hcq := row6.cellI (i := 1) rfl
                have hfq := ho6.frozen 0
                obtain ⟨y0, hc0⟩ : ∃ y, (w5.alloc (Obj.cells #[.int .i64 (-1), .int .i64 ((k : Int) + 1), .int .i64 x] 3)).cell? ⟨g0, 0, none⟩ = some (.int .i64 y) := ⟨_, ho6.cell (List.getElem?_eq_getElem (by rw [hPj.out]; omega))⟩
                refine wpAnyH_take (i := 12) (v := .pointer (some ⟨w5.heap.size, 1, none⟩)) rfl (by kernel_rfl) (by kernel_rfl) (by kernel_rfl) (fun _ _ _ h => h) (Or.inl ⟨by kernel_rfl, fun w hSw => by (try dsimp only at hSw); go_simp⟩) hHeld ?_
                try simp only [Act.put, List.setIfInBounds_toArray, List.set_cons_zero, List.set_cons_succ]
                refine wpAnyH_ready (rs := [13]) (by kernel_rfl) (by simp) ?_
                refine AllReadyH.cons rfl (fun K hK => ?_) (AllReadyH.nil)
                go_simp
                refine hK.out _ _ trivial (fun hHeld => ?_)
                clear hK
                try simp only [Act.put, List.setIfInBounds_toArray, List.set_cons_zero, List.set_cons_succ]
                refine wpAnyH_take (i := 14) (v := .pointer (some ⟨g0, 0, none⟩)) rfl (by kernel_rfl) (by kernel_rfl) (by kernel_rfl) (fun _ _ _ h => h) (Or.inl ⟨by kernel_rfl, fun w hSw => by (try dsimp only at hSw); go_simp⟩) hHeld ?_
                try simp only [Act.put, List.setIfInBounds_toArray, List.set_cons_zero, List.set_cons_succ]
                refine wpAnyH_ready (rs := [15]) (by kernel_rfl) (by simp) ?_
                refine AllReadyH.cons rfl (fun K hK => ?_) (AllReadyH.nil)
                go_simp
                refine hK.out _ _ trivial (fun hHeld => ?_)
                clear hK
                refine wpAnyH_done (by kernel_rfl) ?_ _
                try simp only [Act.put, List.setIfInBounds_toArray, List.set_cons_zero, List.set_cons_succ]
                have hst := ho6.stored 0 ((k : Int) + 1) (by rw [hPj.out]; omega)
                go_wp2_with fail
                go_ret3
                exact planD_mk (P := P.set 0 ((k : Int) + 1)) rfl Hn.out (by rw [List.length_set]; exact hPj.out) hs (by omega) (by omega) (hoL6.apart (grown_set _ g0 0 (.int .i64 ((k : Int) + 1))) (fun j hj e => by injection e with e; have := HbJ.out j hj; omega)) hst hs1 (grown_own hg6' (grown_set _ g0 0 (.int .i64 ((k : Int) + 1))) (fun j hj => by injection hj with hj; omega))
              · have hcq := row6.cellI (i := 2) rfl
                have hfq := ho6.frozen 0
                obtain ⟨y0, hc0⟩ : ∃ y, (w5.alloc (Obj.cells #[.int .i64 (-1), .int .i64 ((k : Int) + 1), .int .i64 x] 3)).cell? ⟨g0, 0, none⟩ = some (.int .i64 y) := ⟨_, ho6.cell (List.getElem?_eq_getElem (by rw [hPj.out]; omega))⟩
                refine wpAnyH_take (i := 12) (v := .pointer (some ⟨w5.heap.size, 2, none⟩)) rfl (by kernel_rfl) (by kernel_rfl) (by kernel_rfl) (fun _ _ _ h => h) (Or.inl ⟨by kernel_rfl, fun w hSw => by (try dsimp only at hSw); go_simp⟩) hHeld ?_
                try simp only [Act.put, List.setIfInBounds_toArray, List.set_cons_zero, List.set_cons_succ]
                refine wpAnyH_ready (rs := [13]) (by kernel_rfl) (by simp) ?_
                refine AllReadyH.cons rfl (fun K hK => ?_) (AllReadyH.nil)
                go_simp
                refine hK.out _ _ trivial (fun hHeld => ?_)
                clear hK
                try simp only [Act.put, List.setIfInBounds_toArray, List.set_cons_zero, List.set_cons_succ]
                refine wpAnyH_take (i := 14) (v := .pointer (some ⟨g0, 0, none⟩)) rfl (by kernel_rfl) (by kernel_rfl) (by kernel_rfl) (fun _ _ _ h => h) (Or.inl ⟨by kernel_rfl, fun w hSw => by (try dsimp only at hSw); go_simp⟩) hHeld ?_
                try simp only [Act.put, List.setIfInBounds_toArray, List.set_cons_zero, List.set_cons_succ]
                refine wpAnyH_ready (rs := [15]) (by kernel_rfl) (by simp) ?_
                refine AllReadyH.cons rfl (fun K hK => ?_) (AllReadyH.nil)
                go_simp
                refine hK.out _ _ trivial (fun hHeld => ?_)
                clear hK
                refine wpAnyH_done (by kernel_rfl) ?_ _
                try simp only [Act.put, List.setIfInBounds_toArray, List.set_cons_zero, List.set_cons_succ]
                have hst := ho6.stored 0 x (by rw [hPj.out]; omega)
                go_wp2_with fail
                go_ret3
                exact planD_mk (P := P.set 0 x) rfl Hn.out (by rw [List.length_set]; exact hPj.out) hs (by omega) (by omega) (hoL6.apart (grown_set _ g0 0 (.int .i64 x)) (fun j hj e => by injection e with e; have := HbJ.out j hj; omega)) hst hs1 (grown_own hg6' (grown_set _ g0 0 (.int .i64 x)) (fun j hj => by injection hj with hj; omega))
          · go_simp
            go_at_call 80
            refine (HP3.out _ _ hr4 (by omega)).mono ?_
            rintro e w5 ⟨v, rfl, ⟨hv0, hv1, _⟩, hr5, hg5⟩
            have hv3 := hv1 (by omega)
            clear hv1
            show K _ w5
            refine hK.out _ _ trivial (fun hHeld => ?_)
            clear hK
            try simp only [Act.put, List.setIfInBounds_toArray, List.set_cons_zero, List.set_cons_succ]
            have ho5 := hoP4.kept hg5 (fun j hj => by injection hj with hj; omega)
            have hoL5 := hoL4.kept hg5 (fun j hj => by injection hj with hj; omega)
            have hg5' := grown_trans hg4 hg5
            have hcx5 := ho5.cell hPx.out
            refine wpAnyH_ready (rs := [8]) (by kernel_rfl) (by simp) ?_
            refine AllReadyH.cons rfl (fun K hK => ?_) (AllReadyH.nil)
            go_simp
            refine hK.out _ _ trivial (fun hHeld => ?_)
            clear hK
            try simp only [Act.put, List.setIfInBounds_toArray, List.set_cons_zero, List.set_cons_succ]
            refine wpAnyH_ready (rs := [9]) (by kernel_rfl) (by simp) ?_
            refine AllReadyH.cons rfl (fun K hK => ?_) (AllReadyH.nil)
            go_simp
            refine hK.out _ _ trivial (fun hHeld => ?_)
            clear hK
            try simp only [Act.put, List.setIfInBounds_toArray, List.set_cons_zero, List.set_cons_succ]
            have ho6 := ho5.alloc (Obj.cells #[.int .i64 (-1), .int .i64 ((k : Int) + 1), .int .i64 x] 3)
            have hoL6 := hoL5.alloc (Obj.cells #[.int .i64 (-1), .int .i64 ((k : Int) + 1), .int .i64 x] 3)
            have row6 := Row.newS w5 3 #[.int .i64 (-1), .int .i64 ((k : Int) + 1), .int .i64 x] (g := w5.heap.size) rfl rfl
            have hg6' := grown_alloc hg5' (Obj.cells #[.int .i64 (-1), .int .i64 ((k : Int) + 1), .int .i64 x] 3)
            rcases (by omega : v = 0 ∨ v = 1 ∨ v = 2) with rfl | rfl | rfl
            · have hcq := row6.cellI (i := 0) rfl
              have hfq := ho6.frozen 0
              obtain ⟨y0, hc0⟩ : ∃ y, (w5.alloc (Obj.cells #[.int .i64 (-1), .int .i64 ((k : Int) + 1), .int .i64 x] 3)).cell? ⟨g0, 0, none⟩ = some (.int .i64 y) := ⟨_, ho6.cell (List.getElem?_eq_getElem (by rw [hPj.out]; omega))⟩
              refine wpAnyH_take (i := 12) (v := .pointer (some ⟨w5.heap.size, 0, none⟩)) rfl (by kernel_rfl) (by kernel_rfl) (by kernel_rfl) (fun _ _ _ h => h) (Or.inl ⟨by kernel_rfl, fun w hSw => by (try dsimp only at hSw); go_simp⟩) hHeld ?_
              try simp only [Act.put, List.setIfInBounds_toArray, List.set_cons_zero, List.set_cons_succ]
              refine wpAnyH_ready (rs := [13]) (by kernel_rfl) (by simp) ?_
              refine AllReadyH.cons rfl (fun K hK => ?_) (AllReadyH.nil)
              go_simp
              refine hK.out _ _ trivial (fun hHeld => ?_)
              clear hK
              try simp only [Act.put, List.setIfInBounds_toArray, List.set_cons_zero, List.set_cons_succ]
              refine wpAnyH_take (i := 14) (v := .pointer (some ⟨g0, 0, none⟩)) rfl (by kernel_rfl) (by kernel_rfl) (by kernel_rfl) (fun _ _ _ h => h) (Or.inl ⟨by kernel_rfl, fun w hSw => by (try dsimp only at hSw); go_simp⟩) hHeld ?_
              try simp only [Act.put, List.setIfInBounds_toArray, List.set_cons_zero, List.set_cons_succ]
              refine wpAnyH_ready (rs := [15]) (by kernel_rfl) (by simp) ?_
              refine AllReadyH.cons rfl (fun K hK => ?_) (AllReadyH.nil)
              go_simp
              refine hK.out _ _ trivial (fun hHeld => ?_)
              clear hK
              refine wpAnyH_done (by kernel_rfl) ?_ _
              try simp only [Act.put, List.setIfInBounds_toArray, List.set_cons_zero, List.set_cons_succ]
              have hst := ho6.stored 0 (-1) (by rw [hPj.out]; omega)
              go_wp2_with fail
              go_ret3
              exact planD_mk (P := P.set 0 (-1)) rfl Hn.out (by rw [List.length_set]; exact hPj.out) hs (by omega) (by omega) (hoL6.apart (grown_set _ g0 0 (.int .i64 (-1))) (fun j hj e => by injection e with e; have := HbJ.out j hj; omega)) hst hs1 (grown_own hg6' (grown_set _ g0 0 (.int .i64 (-1))) (fun j hj => by injection hj with hj; omega))
            · have hcq := row6.cellI (i := 1) rfl
              have hfq := ho6.frozen 0
              obtain ⟨y0, hc0⟩ : ∃ y, (w5.alloc (Obj.cells #[.int .i64 (-1), .int .i64 ((k : Int) + 1), .int .i64 x] 3)).cell? ⟨g0, 0, none⟩ = some (.int .i64 y) := ⟨_, ho6.cell (List.getElem?_eq_getElem (by rw [hPj.out]; omega))⟩
              refine wpAnyH_take (i := 12) (v := .pointer (some ⟨w5.heap.size, 1, none⟩)) rfl (by kernel_rfl) (by kernel_rfl) (by kernel_rfl) (fun _ _ _ h => h) (Or.inl ⟨by kernel_rfl, fun w hSw => by (try dsimp only at hSw); go_simp⟩) hHeld ?_
              try simp only [Act.put, List.setIfInBounds_toArray, List.set_cons_zero, List.set_cons_succ]
              refine wpAnyH_ready (rs := [13]) (by kernel_rfl) (by simp) ?_
              refine AllReadyH.cons rfl (fun K hK => ?_) (AllReadyH.nil)
              go_simp
              refine hK.out _ _ trivial (fun hHeld => ?_)
              clear hK
              try simp only [Act.put, List.setIfInBounds_toArray, List.set_cons_zero, List.set_cons_succ]
              refine wpAnyH_take (i := 14) (v := .pointer (some ⟨g0, 0, none⟩)) rfl (by kernel_rfl) (by kernel_rfl) (by kernel_rfl) (fun _ _ _ h => h) (Or.inl ⟨by kernel_rfl, fun w hSw => by (try dsimp only at hSw); go_simp⟩) hHeld ?_
              try simp only [Act.put, List.setIfInBounds_toArray, List.set_cons_zero, List.set_cons_succ]
              refine wpAnyH_ready (rs := [15]) (by kernel_rfl) (by simp) ?_
              refine AllReadyH.cons rfl (fun K hK => ?_) (AllReadyH.nil)
              go_simp
              refine hK.out _ _ trivial (fun hHeld => ?_)
              clear hK
              refine wpAnyH_done (by kernel_rfl) ?_ _
              try simp only [Act.put, List.setIfInBounds_toArray, List.set_cons_zero, List.set_cons_succ]
              have hst := ho6.stored 0 ((k : Int) + 1) (by rw [hPj.out]; omega)
              go_wp2_with fail
              go_ret3
              exact planD_mk (P := P.set 0 ((k : Int) + 1)) rfl Hn.out (by rw [List.length_set]; exact hPj.out) hs (by omega) (by omega) (hoL6.apart (grown_set _ g0 0 (.int .i64 ((k : Int) + 1))) (fun j hj e => by injection e with e; have := HbJ.out j hj; omega)) hst hs1 (grown_own hg6' (grown_set _ g0 0 (.int .i64 ((k : Int) + 1))) (fun j hj => by injection hj with hj; omega))
            · have hcq := row6.cellI (i := 2) rfl
              have hfq := ho6.frozen 0
              obtain ⟨y0, hc0⟩ : ∃ y, (w5.alloc (Obj.cells #[.int .i64 (-1), .int .i64 ((k : Int) + 1), .int .i64 x] 3)).cell? ⟨g0, 0, none⟩ = some (.int .i64 y) := ⟨_, ho6.cell (List.getElem?_eq_getElem (by rw [hPj.out]; omega))⟩
              refine wpAnyH_take (i := 12) (v := .pointer (some ⟨w5.heap.size, 2, none⟩)) rfl (by kernel_rfl) (by kernel_rfl) (by kernel_rfl) (fun _ _ _ h => h) (Or.inl ⟨by kernel_rfl, fun w hSw => by (try dsimp only at hSw); go_simp⟩) hHeld ?_
              try simp only [Act.put, List.setIfInBounds_toArray, List.set_cons_zero, List.set_cons_succ]
              refine wpAnyH_ready (rs := [13]) (by kernel_rfl) (by simp) ?_
              refine AllReadyH.cons rfl (fun K hK => ?_) (AllReadyH.nil)
              go_simp
              refine hK.out _ _ trivial (fun hHeld => ?_)
              clear hK
              try simp only [Act.put, List.setIfInBounds_toArray, List.set_cons_zero, List.set_cons_succ]
              refine wpAnyH_take (i := 14) (v := .pointer (some ⟨g0, 0, none⟩)) rfl (by kernel_rfl) (by kernel_rfl) (by kernel_rfl) (fun _ _ _ h => h) (Or.inl ⟨by kernel_rfl, fun w hSw => by (try dsimp only at hSw); go_simp⟩) hHeld ?_
              try simp only [Act.put, List.setIfInBounds_toArray, List.set_cons_zero, List.set_cons_succ]
              refine wpAnyH_ready (rs := [15]) (by kernel_rfl) (by simp) ?_
              refine AllReadyH.cons rfl (fun K hK => ?_) (AllReadyH.nil)
              go_simp
              refine hK.out _ _ trivial (fun hHeld => ?_)
              clear hK
              refine wpAnyH_done (by kernel_rfl) ?_ _
              try simp only [Act.put, List.setIfInBounds_toArray, List.set_cons_zero, List.set_cons_succ]
              have hst := ho6.stored 0 x (by rw [hPj.out]; omega)
              go_wp2_with fail
              go_ret3
              exact planD_mk (P := P.set 0 x) rfl Hn.out (by rw [List.length_set]; exact hPj.out) hs (by omega) (by omega) (hoL6.apart (grown_set _ g0 0 (.int .i64 x)) (fun j hj e => by injection e with e; have := HbJ.out j hj; omega)) hst hs1 (grown_own hg6' (grown_set _ g0 0 (.int .i64 x)) (fun j hj => by injection hj with hj; omega))
        · have hab := bF ha
          go_wp2_with fail
          go_ret3
          exact planD_mk rfl Hn.out hPj.out hs (by omega) (by omega) hoL4 hoP4 hs1 hg4
end Go.Proofs.Ytglncadfmomamaa
