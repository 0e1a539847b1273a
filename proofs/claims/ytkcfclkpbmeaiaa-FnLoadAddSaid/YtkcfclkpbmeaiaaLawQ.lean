/- What the laws of nets say, in plain numbers: fewer lines, sides, sums. -/
import Derived.Test.YtkcfclkpbmeaiaaLawP
namespace Go.Proofs.Ytkcfclkpbmeaiaa
set_option linter.unusedVariables false
set_option linter.unusedSimpArgs false
open Go.RowKit
theorem sideF_get {xs : List Int} {n : Nat} (h0 : ∀ x, x ∈ xs → 0 ≤ x ∧ x ≤ 1) (i : Int) : (sideF xs i = true ↔ xs.getD i.toNat 0 = 1) ∧ (sideF xs i = false ↔ xs.getD i.toNat 0 = 0) := by
  unfold sideF
  have h : xs.getD i.toNat 0 = 0 ∨ xs.getD i.toNat 0 = 1 := by
    rw [List.getD_eq_getElem?_getD]
    cases h : xs[i.toNat]? with
    | none => left; rfl
    | some x => have := h0 x (List.mem_of_getElem? h); simp; omega
  rcases h with h | h <;> rw [h] <;> simp
/-- The greatest load fills every least cut. -/
theorem load_full {n : Int} {L : List Ln} {p q : Int} {xs : List Int} (h : LeastR n L p q xs true) {k : Nat} {l : Ln} {x : Int} (hl : L[k]? = some l) (hx : (loadV n L p q)[k]? = some x) :
    (sideF xs l.a = true → sideF xs l.b = false → x = l.c) ∧ (sideF xs l.a = false → sideF xs l.b = true → x = -l.c) := by
  obtain ⟨hC, hv⟩ := least_is' h
  obtain ⟨hP, ho⟩ := load_is hC.1
  obtain ⟨hk, h0⟩ := hP.kept
  obtain ⟨s1, s2⟩ := hC.sides
  obtain ⟨nn, pp, qq, rfl, rfl, rfl, n2, n6, hp, hq, hpq, hin, hL10⟩ := two_nat hC.1
  refine cross_eq hin hP.2.2.1 ?_ hl hx
  rw [← out_cross hin (by omega) (by omega) hk s1 s2, ho, hv]
def restTo (xs : List Int) (L : List Ln) (k : Nat) : List Ln := (L.take k).filter fun l => xs.getD l.a.toNat 0 == xs.getD l.b.toNat 0
theorem rest_yes {xs : List Int} {L : List Ln} {k : Nat} {l : Ln} (hl : L[k]? = some l) (h : xs.getD l.a.toNat 0 = xs.getD l.b.toNat 0) : restTo xs L k ++ [l] = restTo xs L (k + 1) := by
  have e : (xs.getD l.a.toNat 0 == xs.getD l.b.toNat 0) = true := bT h
  rw [restTo, restTo, List.take_add_one, hl, List.filter_append]
  simp only [Option.toList, List.filter_cons, e, if_true, List.filter_nil]
theorem rest_no {xs : List Int} {L : List Ln} {k : Nat} {l : Ln} (hl : L[k]? = some l) (h : xs.getD l.a.toNat 0 ≠ xs.getD l.b.toNat 0) : restTo xs L k = restTo xs L (k + 1) := by
  have e : (xs.getD l.a.toNat 0 == xs.getD l.b.toNat 0) = false := bF h
  rw [restTo, restTo, List.take_add_one, hl, List.filter_append]
  simp only [Option.toList, List.filter_cons, e, Bool.false_eq_true, if_false, List.filter_nil, List.append_nil]
theorem rest_len (xs : List Int) (L : List Ln) (k : Nat) : (restTo xs L k).length ≤ k := by
  unfold restTo
  have h1 := List.length_filter_le (fun l : Ln => xs.getD l.a.toNat 0 == xs.getD l.b.toNat 0) (L.take k)
  have h2 : (L.take k).length ≤ k := by simp; omega
  omega
theorem net_sub {n : Int} {L M : List Ln} (h : netOk n L = true) (h1 : ∀ l, l ∈ M → l ∈ L) (h2 : M.length ≤ L.length) : netOk n M = true := by
  unfold netOk at h ⊢
  simp only [Bool.and_eq_true, List.all_eq_true, decide_eq_true_eq] at h ⊢
  exact ⟨⟨fun l hl => h.1.1 l (h1 l hl), h.1.2⟩, by omega⟩
theorem two_sub {n : Int} {L M : List Ln} {p q : Int} (h : twoOk n L p q = true) (h1 : ∀ l, l ∈ M → l ∈ L) (h2 : M.length ≤ L.length) : twoOk n M p q = true := by
  unfold twoOk at h ⊢
  rw [Bool.and_eq_true] at h ⊢
  exact ⟨net_sub h.1 h1 h2, h.2⟩
theorem rest_most {n : Int} {L : List Ln} {p q : Int} {xs : List Int} (h : CutP n L p q xs) : mostV n (restTo xs L L.length) p q = 0 := by
  have hlen := rest_len xs L L.length
  have hmem : ∀ l, l ∈ restTo xs L L.length → l ∈ L := fun l hl => by
    unfold restTo at hl
    rw [List.mem_filter] at hl
    exact List.mem_of_mem_take hl.1
  have ht := two_sub h.1 hmem hlen
  obtain ⟨s1, s2⟩ := h.sides
  have h1 := (mostV_cut ht).le _ s1 s2
  have h2 := (mostV_bound ht).1
  have h3 : ∀ M : List Ln, (∀ l, l ∈ M → xs.getD l.a.toNat 0 = xs.getD l.b.toNat 0) → cutVal (sideF xs) M = 0 := fun M => by
    induction M with
    | nil => intro _; rfl
    | cons l M ih =>
      intro hM
      rw [cutVal, ih (fun l hl => hM l (by simp [hl])), cutTerm, if_pos]
      · rfl
      · unfold sideF; rw [hM l (by simp)]
  rw [h3 _ (fun l hl => by unfold restTo at hl; rw [List.mem_filter] at hl; exact beq_iff_eq.1 hl.2)] at h1
  omega
theorem other_side {n a y : Int} (hn : 2 ≤ n) (ha0 : 0 ≤ a) (ha : a < n) (hy0 : 0 ≤ y) (hy : y < n - 1) : 0 ≤ (a + 1 + y) % n ∧ (a + 1 + y) % n < n ∧ (a + 1 + y) % n ≠ a := by
  have h1 : 0 ≤ (a + 1 + y) % n := Int.emod_nonneg _ (by omega)
  have h2 : (a + 1 + y) % n < n := Int.emod_lt_of_pos _ (by omega)
  refine ⟨h1, h2, ?_⟩
  by_cases h : a + 1 + y < n
  · rw [Int.emod_eq_of_lt (by omega) h]; omega
  · have e : (a + 1 + y) % n = a + 1 + y - n := by
      rw [show a + 1 + y = (a + 1 + y - n) + n by omega, Int.add_emod_right, Int.emod_eq_of_lt (by omega) (by omega)]; omega
    rw [e]; omega
theorem two_of {n a b : Int} {L : List Ln} (h : netOk n L = true) (ha0 : 0 ≤ a) (ha : a < n) (hb0 : 0 ≤ b) (hb : b < n) (hab : a ≠ b) : twoOk n L a b = true := by
  obtain ⟨n2, n6, hlen10, hin⟩ := netOk_n h
  obtain ⟨nn, rfl⟩ := Int.eq_ofNat_of_zero_le (by omega : 0 ≤ n)
  obtain ⟨a, rfl⟩ := Int.eq_ofNat_of_zero_le ha0
  obtain ⟨b, rfl⟩ := Int.eq_ofNat_of_zero_le hb0
  exact two_mk h (by omega) (by omega) (by omega)
theorem wout_d {n : Int} {L : List Ln} {a b : Int} {k : Nat} {l : Ln} (hl : L[k]? = some l) (h : twoOk n L a b = true) : 0 ≤ mostV n L a b - mostV n (L.eraseIdx k) a b ∧ mostV n L a b - mostV n (L.eraseIdx k) a b ≤ l.c := by
  obtain ⟨nn, pp, qq, rfl, rfl, rfl, n2, n6, hp, hq, hpq, hin, hL10⟩ := two_nat h
  exact MinCut.without hin hl (mostV_cut h) (mostV_cut (two_erase h k))
theorem wout_own {n : Int} {L : List Ln} {k : Nat} {l : Ln} (hl : L[k]? = some l) (h : netOk n L = true) : mostV n L l.a l.b - mostV n (L.eraseIdx k) l.a l.b = l.c := by
  obtain ⟨n2, n6, hlen10, hin⟩ := netOk_n h
  have h1 := hin l (List.mem_of_getElem? hl)
  have h2 := two_of h (a := l.a) (b := l.b) (by omega) (by omega) (by omega) (by omega) (by omega)
  exact MinCut.own hin hl (mostV_cut h2) (mostV_cut (two_erase h2 k))
theorem left_at {n : Int} {L : List Ln} {p q : Int} {k : Nat} (hk : k < L.length) : atI (leftV n L p q) k = mostV n (L.eraseIdx k) p q := by
  rw [atI, leftV, List.getD_eq_getElem?_getD, List.getElem?_map, List.getElem?_range hk]; rfl
/-- The weakest line: none leaves less, and none ahead of it as little. -/
theorem weak_is {n : Int} {L : List Ln} {p q : Int} (h0 : 0 < L.length) : ∃ m, m = bestAt (leftV n L p q) L.length ∧ m < L.length ∧ (∀ k, k < L.length → mostV n (L.eraseIdx m) p q ≤ mostV n (L.eraseIdx k) p q) ∧ ∀ k, k < m → mostV n (L.eraseIdx m) p q < mostV n (L.eraseIdx k) p q := by
  obtain ⟨h1, h2, h3⟩ := best_spec (leftV n L p q) L.length h0
  refine ⟨_, rfl, h1, fun k hk => ?_, fun k hk => ?_⟩
  · have := h2 k hk; rw [left_at h1, left_at hk] at this; exact this
  · have := h3 k hk; rw [left_at h1, left_at (by omega)] at this; exact this
theorem need_mem {n : Int} {L : List Ln} {p q : Int} (h : twoOk n L p q = true) (i : Nat) : (i : Int) ∈ needV n L p q ↔ i < L.length ∧ mostV n (L.eraseIdx i) p q < mostV n L p q := by
  rw [needV, if_pos h, needTo, List.mem_map]
  constructor
  · rintro ⟨j, hj, e⟩
    have : j = i := by omega
    subst this
    rw [List.mem_filter, List.mem_range, decide_eq_true_eq] at hj
    exact hj
  · intro hi
    exact ⟨i, by rw [List.mem_filter, List.mem_range, decide_eq_true_eq]; exact hi, rfl⟩
theorem need_two {n : Int} {L : List Ln} {p q : Int} (h : (needV n L p q).length ≠ 0) : twoOk n L p q = true := by
  cases h1 : twoOk n L p q with
  | true => rfl
  | false => rw [needV, h1] at h; simp at h
theorem weak_need {n : Int} {L : List Ln} {p q : Int} {m : Nat} (h : twoOk n L p q = true) (hm : m < L.length) (hle : ∀ k, k < L.length → mostV n (L.eraseIdx m) p q ≤ mostV n (L.eraseIdx k) p q) (hne : (needV n L p q).length ≠ 0) : (m : Int) ∈ needV n L p q := by
  obtain ⟨x, hx⟩ : ∃ x, x ∈ needV n L p q := List.exists_mem_of_length_pos (by omega)
  have hx' := hx
  rw [needV, if_pos h, needTo, List.mem_map] at hx'
  obtain ⟨i, _, rfl⟩ := hx'
  obtain ⟨h1, h2⟩ := (need_mem h i).1 hx
  have := hle i h1
  exact (need_mem h m).2 ⟨hm, by omega⟩
theorem need_cross {n : Int} {L : List Ln} {p q : Int} {xs : List Int} (h : LeastR n L p q xs true) {k : Nat} {l : Ln} (hl : L[k]? = some l) (hne : xs.getD l.a.toNat 0 ≠ xs.getD l.b.toNat 0) : (k : Int) ∈ needV n L p q := by
  obtain ⟨hC, hv⟩ := least_is' h
  obtain ⟨s1, s2⟩ := hC.sides
  obtain ⟨nn, pp, qq, rfl, rfl, rfl, n2, n6, hp, hq, hpq, hin, hL10⟩ := two_nat hC.1
  refine (need_mem hC.1 k).2 ⟨(List.getElem?_eq_some_iff.1 hl).1, ?_⟩
  refine MinCut.needed hin hl (mostV_cut (two_erase hC.1 k)) s1 s2 hv fun e => hne ?_
  have ha := sideF_get (n := nn) hC.2.2.1 l.a
  have hb := sideF_get (n := nn) hC.2.2.1 l.b
  cases hs : sideF xs l.a with
  | true => rw [hs] at e; rw [ha.1.1 hs, hb.1.1 e.symm]
  | false => rw [hs] at e; rw [ha.2.1 hs, hb.2.1 e.symm]
theorem need_load {n : Int} {L : List Ln} {p q : Int} {k : Nat} (h : twoOk n L p q = true) (hm : (k : Int) ∈ needV n L p q) : (loadV n L p q)[k]? ≠ some 0 := by
  intro hx
  obtain ⟨h1, h2⟩ := (need_mem h k).1 hm
  obtain ⟨nn, pp, qq, t, rfl, rfl, rfl, hp, hq, hpq, n6, n2, hin, hL10, ht, hmo⟩ := most_two h
  have := hmo.idle hin hp (List.getElem?_eq_getElem h1) hx (mostV_cut (two_erase h k))
  omega
theorem sumL_comm (f g : List Int) : sumL f g = sumL g f := by
  unfold sumL
  rw [List.zipWith_comm]
  congr
  funext a b; exact Int.add_comm _ _
theorem add_swap {n : Int} {L : List Ln} {p q : Int} {f g xs : List Int} (h : AddR n L p q f g xs true) : xs = sumL f g ∧ LoadP n L p q f ∧ LoadP n L p q g ∧ LoadP n L p q (sumL f g) ∧ outAt L (sumL f g) p = outAt L f p + outAt L g p := by
  rcases h with ⟨⟨h1, h2, h3⟩, h4, _⟩ | ⟨_, _, h⟩
  · exact ⟨h4, h1, h2, h3, outAt_add L f g p (h1.2.1.trans h2.2.1.symm)⟩
  · cases h
theorem add_back {n : Int} {L : List Ln} {p q : Int} {f g xs : List Int} {ok : Bool} (h : AddR n L p q g f xs ok) (h1 : LoadP n L p q f) (h2 : LoadP n L p q g) (h3 : LoadP n L p q (sumL f g)) : xs = sumL f g ∧ ok = true := by
  rcases h with ⟨_, h4, h5⟩ | ⟨h4, _, _⟩
  · exact ⟨h4.trans (sumL_comm g f), h5⟩
  · exact absurd ⟨h2, h1, by rw [sumL_comm]; exact h3⟩ h4
theorem tri3 {n a b c : Int} {L : List Ln} (h : netOk n L = true) (ha0 : 0 ≤ a) (ha : a < n) (hb0 : 0 ≤ b) (hb : b < n) (hc0 : 0 ≤ c) (hc : c < n) (hab : a ≠ b) (hbc : b ≠ c) (hac : a ≠ c) :
    min (mostV n L b c) (mostV n L a c) ≤ mostV n L a b ∧ min (mostV n L a b) (mostV n L a c) ≤ mostV n L b c ∧ min (mostV n L a b) (mostV n L b c) ≤ mostV n L a c := by
  have c1 := mostV_cut (two_of h ha0 ha hb0 hb hab)
  have c2 := mostV_cut (two_of h hb0 hb hc0 hc hbc)
  have c3 := mostV_cut (two_of h ha0 ha hc0 hc hac)
  refine ⟨c1.tri c2 c3, ?_, ?_⟩
  · have := MinCut.tri (a := b) (b := c) (c := a) c2 c3.symm c1.symm
    omega
  · have := MinCut.tri (a := a) (b := c) (c := b) c3 c2.symm c1
    omega
theorem tree_at {n : Nat} {L : List Ln} {a j : Nat} (ha : a < n) (hj : j < n - (a + 1)) : (treeTo n L n)[(treeTo n L a).length + j]? = some (mostV n L a ((a + 1 + j : Nat) : Int)) := by
  have e1 : ∀ m, treeTo n L (a + 1 + m) = treeTo n L (a + 1) ++ (List.range' (a + 1) m).flatMap fun i => treeRow n L i (n - (i + 1)) := fun m => by
    unfold treeTo
    have h := List.range'_append_1 (s := 0) (m := a + 1) (n := m)
    rw [Nat.zero_add] at h
    rw [← List.flatMap_append, List.range_eq_range', List.range_eq_range', h]
  have e2 : treeTo n L (a + 1) = treeTo n L a ++ treeRow n L a (n - (a + 1)) := by
    unfold treeTo
    rw [List.range_succ, List.flatMap_append]; simp
  have e3 : treeTo n L n = treeTo n L a ++ (treeRow n L a (n - (a + 1)) ++ (List.range' (a + 1) (n - (a + 1))).flatMap fun i => treeRow n L i (n - (i + 1))) := by
    have := e1 (n - (a + 1))
    rw [show a + 1 + (n - (a + 1)) = n by omega, e2, List.append_assoc] at this
    exact this
  rw [e3, List.getElem?_append_right (by omega), Nat.add_sub_cancel_left, List.getElem?_append_left (by simp [treeRow]; omega)]
  rw [treeRow, List.getElem?_map, List.getElem?_range hj]; rfl
theorem tree_len {n : Nat} {L : List Ln} (a : Nat) : (treeTo n L (a + 1)).length = (treeTo n L a).length + (n - (a + 1)) := by
  unfold treeTo
  rw [List.range_succ, List.flatMap_append, List.length_append]; simp [treeRow]
theorem cutP_mk {nn pp qq : Nat} {L : List Ln} (h : twoOk nn L pp qq = true) {xs : List Int} (hl : xs.length = nn) (h01 : ∀ x, x ∈ xs → 0 ≤ x ∧ x ≤ 1) : CutP nn L pp qq ((xs.set pp 1).set qq 0) := by
  obtain ⟨h2, hp0, hp1, hq0, hq1, hpq⟩ := twoOk_n h
  have hne : pp ≠ qq := fun e => hpq (by rw [e])
  refine ⟨h, by simp [hl], fun x hx => ?_, ?_, ?_⟩
  · rcases List.mem_or_eq_of_mem_set hx with h1 | h1
    · rcases List.mem_or_eq_of_mem_set h1 with h2 | h2
      · exact h01 x h2
      · omega
    · omega
  · rw [Int.toNat_natCast, List.getD_eq_getElem?_getD, List.getElem?_set_ne (fun e => hne e.symm), List.getElem?_set_self (by omega)]; rfl
  · rw [Int.toNat_natCast, List.getD_eq_getElem?_getD, List.getElem?_set_self (by simp; omega)]; rfl
theorem getD_map_not {xs : List Int} {i : Nat} (h : i < xs.length) : (xs.map fun x => 1 - x).getD i 0 = 1 - xs.getD i 0 := by
  rw [List.getD_eq_getElem?_getD, List.getElem?_map, List.getElem?_eq_getElem h, List.getD_eq_getElem?_getD, List.getElem?_eq_getElem h]; rfl
/-- The other side. -/
theorem cut_other {n : Int} {L : List Ln} {p q : Int} {s : List Int} (h : CutP n L p q s) : CutP n L q p (s.map fun x => 1 - x) ∧ cutVal (sideF (s.map fun x => 1 - x)) L = cutVal (sideF s) L := by
  obtain ⟨h1, h2, h3, h4, h5⟩ := h
  obtain ⟨nn, pp, qq, rfl, rfl, rfl, n2, n6, hp, hq, hpq, hin, hL10⟩ := two_nat h1
  rw [Int.toNat_natCast] at h4 h5
  refine ⟨⟨two_swap h1, by simpa using h2, fun x hx => ?_, ?_, ?_⟩, ?_⟩
  · rw [List.mem_map] at hx
    obtain ⟨y, hy, rfl⟩ := hx
    have := h3 y hy
    omega
  · rw [Int.toNat_natCast, getD_map_not (by omega), h5]; rfl
  · rw [Int.toNat_natCast, getD_map_not (by omega), h4]; rfl
  · rw [← cutVal_not (sideF s) L]
    refine cutVal_congr fun l hl => ?_
    have hh := hin l hl
    have key : ∀ i : Int, 0 ≤ i → i < nn → sideF (s.map fun x => 1 - x) i = !sideF s i := fun i h0 h1 => by
      have hb := sideF_get (n := 0) h3 i
      unfold sideF
      rw [getD_map_not (by omega)]
      cases hs : sideF s i with
      | true => rw [hb.1.1 hs]; rfl
      | false => rw [hb.2.1 hs]; rfl
    exact ⟨key _ hh.1 hh.2.1, key _ hh.2.2.1 hh.2.2.2.1⟩
/-- All but one. -/
theorem cut_all {nn pp qq : Nat} {L : List Ln} (h : twoOk nn L pp qq = true) : CutP nn L pp qq ((List.replicate nn (1 : Int)).set qq 0) ∧ cutVal (sideF ((List.replicate nn (1 : Int)).set qq 0)) L = starTo qq L L.length := by
  obtain ⟨h2, hp0, hp1, hq0, hq1, hpq⟩ := twoOk_n h
  obtain ⟨n2, n6, hlen10, hin⟩ := netOk_n h2
  rw [Int.toNat_natCast] at hin
  have hC := cutP_mk h (xs := List.replicate nn 1) (by simp) (fun x hx => by rw [List.eq_of_mem_replicate hx]; omega)
  have e : (List.replicate nn (1 : Int)).set pp 1 = List.replicate nn 1 := by
    apply List.ext_getElem (by simp)
    intro i h1 h2
    rw [List.getElem_set]; split <;> simp
  rw [e] at hC
  refine ⟨hC, ?_⟩
  rw [star_all hin, ← cutVal_not (fun s => s == (qq : Int)) L]
  refine cutVal_congr fun l hl => ?_
  have hh := hin l hl
  have key : ∀ i : Int, 0 ≤ i → i < nn → sideF ((List.replicate nn (1 : Int)).set qq 0) i = !(i == (qq : Int)) := fun i h0 h1 => by
    obtain ⟨j, rfl⟩ := Int.eq_ofNat_of_zero_le h0
    unfold sideF
    rw [Int.toNat_natCast, List.getD_eq_getElem?_getD]
    by_cases ej : qq = j
    · subst ej
      rw [List.getElem?_set_self (by simp; omega)]
      simp
    · rw [List.getElem?_set_ne ej, List.getElem?_replicate_of_lt (by omega)]
      have : ((j : Int) == (qq : Int)) = false := bF (by omega)
      rw [this]; rfl
  exact ⟨key _ hh.1 hh.2.1, key _ hh.2.2.1 hh.2.2.2.1⟩
theorem mod_step {n a d : Int} (hn : 0 < n) (ha0 : 0 ≤ a) (hd0 : 0 ≤ d) (h : a + d < 2 * n) : (a + d) % n = a + d ∧ a + d < n ∨ (a + d) % n = a + d - n ∧ n ≤ a + d := by
  by_cases h1 : a + d < n
  · exact .inl ⟨Int.emod_eq_of_lt (by omega) h1, h1⟩
  · refine .inr ⟨?_, by omega⟩
    rw [show a + d = (a + d - n) + n by omega, Int.add_emod_right, Int.emod_eq_of_lt (by omega) (by omega)]; omega
/-- Three stations in a row, round the corner. -/
theorem three {n a : Int} (hn : 3 ≤ n) (ha0 : 0 ≤ a) (ha : a < n) : 0 ≤ (a + 1) % n ∧ (a + 1) % n < n ∧ 0 ≤ (a + 2) % n ∧ (a + 2) % n < n ∧ a ≠ (a + 1) % n ∧ (a + 1) % n ≠ (a + 2) % n ∧ a ≠ (a + 2) % n := by
  rcases mod_step (by omega : 0 < n) ha0 (d := 1) (by omega) (by omega) with ⟨e1, _⟩ | ⟨e1, _⟩ <;> rcases mod_step (by omega : 0 < n) ha0 (d := 2) (by omega) (by omega) with ⟨e2, _⟩ | ⟨e2, _⟩ <;> rw [e1, e2] <;> omega
end Go.Proofs.Ytkcfclkpbmeaiaa
