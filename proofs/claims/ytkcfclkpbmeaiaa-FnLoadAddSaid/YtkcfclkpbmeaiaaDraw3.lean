/- What the laws draw: nets and places, loads, sides, two loads. -/
import Derived.Test.YtkcfclkpbmeaiaaDLoad
import Derived.OwnWalk
namespace Go.Proofs.Ytkcfclkpbmeaiaa
set_option linter.unusedVariables false
set_option linter.unusedSimpArgs false
open Go.RowKit
theorem own_past {w0 w w' : World} {B : Nat} {v : Value} {xs : List Int} {row : Option Nat} (h : Own w0 B v xs) (h1 : Own w B v xs) (hg : w.grownBy w' row) (hne : ∀ k, row = some k → w0.heap.size ≤ k) : Own w' B v xs :=
  World.ownsRow.kept h1 hg (by
    cases hv : v.ownBlock with
    | none => exact .inl rfl
    | some k =>
      refine .inr fun e => ?_
      have h2 := (h.block k hv).2
      have h3 := hne k e.symm
      omega)
def Wo2Post (w : World) (e : Ending) (w' : World) : Prop := ∃ (n : Int) (A : Option Addr) (c : Nat) (L : List Ln) (k : Int), e = .returned (.tuple #[.int .i64 n, .slice A L.length c, .int .i64 k]) ∧ 2 ≤ n ∧ n ≤ 5 ∧ L.length ≤ 7 ∧ -1 ≤ k ∧ k ≤ 7 ∧ OwnL w' w.heap.size (.slice A L.length c) L ∧ Below w.heap.size w w'
def Tr2Post (w : World) (e : Ending) (w' : World) : Prop := ∃ (n : Int) (A : Option Addr) (c : Nat) (L : List Ln), e = .returned (.tuple #[.int .i64 n, .slice A L.length c]) ∧ 2 ≤ n ∧ n ≤ 5 ∧ L.length ≤ 7 ∧ OwnL w' w.heap.size (.slice A L.length c) L ∧ Below w.heap.size w w'
def Ld2Post (w : World) (e : Ending) (w' : World) : Prop := ∃ (n : Int) (A : Option Addr) (c : Nat) (L : List Ln) (a b : Int) (F : Option Addr) (cf : Nat) (f : List Int), e = .returned (.tuple #[.int .i64 n, .slice A L.length c, .int .i64 a, .int .i64 b, .slice F f.length cf]) ∧ 2 ≤ n ∧ n ≤ 5 ∧ L.length ≤ 7 ∧ -1 ≤ a ∧ a ≤ 5 ∧ -1 ≤ b ∧ b ≤ 5 ∧ OwnL w' w.heap.size (.slice A L.length c) L ∧ Own w' w.heap.size (.slice F f.length cf) f ∧ f.length ≤ 7 ∧ Below w.heap.size w w'
def Ad2Post (w : World) (e : Ending) (w' : World) : Prop := ∃ (n : Int) (A : Option Addr) (c : Nat) (L : List Ln) (a b : Int) (F : Option Addr) (cf : Nat) (f : List Int) (G : Option Addr) (cg : Nat) (g : List Int), e = .returned (.tuple #[.int .i64 n, .slice A L.length c, .int .i64 a, .int .i64 b, .slice F f.length cf, .slice G g.length cg]) ∧ 2 ≤ n ∧ n ≤ 5 ∧ L.length ≤ 7 ∧ -1 ≤ a ∧ a ≤ 5 ∧ -1 ≤ b ∧ b ≤ 5 ∧ OwnL w' w.heap.size (.slice A L.length c) L ∧ Own w' w.heap.size (.slice F f.length cf) f ∧ f.length ≤ 7 ∧ Own w' w.heap.size (.slice G g.length cg) g ∧ g.length ≤ 7 ∧ Below w.heap.size w w'
theorem drawNetWithout (A : Option Addr) (n c : Nat) (hnc : n ≤ c) (hc : c ≤ maxLen) (w : World) (h : Byt w w.heap.size A n) :
    Calls Try.prog 18 #[.slice A n c] w (Wo2Post w) := by
  have hopen := Lib.hid (open_any A n c hnc hc w h)
  go_enter Try.func18, Try.ntmps18
  go_wp2_with fail
  refine hopen.out.mono ?_
  rintro e w1 ⟨g, rfl, hr, hb⟩
  have hgB : w.heap.size ≤ g := by obtain ⟨_, _, _, _, h2, _⟩ := hr; exact h2
  have hgl := hr.lt
  go_wp2_with fail
  refine (dNet _ g 0 (by omega) _ hr).mono ?_
  rintro e w2 ⟨n, A', c', p', L, rfl, hn2, hn5, hL7, ho, hr2, hp2, hg⟩
  go_wp2_with fail
  refine (dAt _ g p' L.length (by omega) (by omega) _ hr2).mono ?_
  rintro e w3 ⟨k, rfl, hk1, hk2, _, hg3⟩
  have ho3 := ho.kept hg3 (fun j hj => by injection hj with hj; omega)
  replace hg3 := grown_trans hg hg3
  go_wp2_with fail
  go_ret3
  exact ⟨n, A', c', L, k, rfl, hn2, hn5, hL7, hk1, by omega, ho3.more hb.size, below_grown2 hb hg3 hgB hb.size⟩
theorem drawNetTree (A : Option Addr) (n c : Nat) (hnc : n ≤ c) (hc : c ≤ maxLen) (w : World) (h : Byt w w.heap.size A n) :
    Calls Try.prog 30 #[.slice A n c] w (Tr2Post w) := by
  have hopen := Lib.hid (open_any A n c hnc hc w h)
  go_enter Try.func30, Try.ntmps30
  go_wp2_with fail
  refine hopen.out.mono ?_
  rintro e w1 ⟨g, rfl, hr, hb⟩
  have hgB : w.heap.size ≤ g := by obtain ⟨_, _, _, _, h2, _⟩ := hr; exact h2
  go_wp2_with fail
  refine (dNet _ g 0 (by omega) _ hr).mono ?_
  rintro e w2 ⟨n, A', c', p', L, rfl, hn2, hn5, hL7, ho, hr2, hp2, hg⟩
  go_wp2_with fail
  go_ret2
  exact ⟨n, A', c', L, rfl, hn2, hn5, hL7, ho.more hb.size, below_grown2 hb hg hgB hb.size⟩
theorem drawLoadValid (A : Option Addr) (n c : Nat) (hnc : n ≤ c) (hc : c ≤ maxLen) (w : World) (h : Byt w w.heap.size A n) :
    Calls Try.prog 14 #[.slice A n c] w (Ld2Post w) := by
  have hopen := Lib.hid (open_any A n c hnc hc w h)
  go_enter Try.func14, Try.ntmps14
  go_wp2_with fail
  refine hopen.out.mono ?_
  rintro e w1 ⟨g, rfl, hr, hb⟩
  have hgB : w.heap.size ≤ g := by obtain ⟨_, _, _, _, h2, _⟩ := hr; exact h2
  go_wp2_with fail
  refine (dLoad _ g 0 (by omega) _ hr).mono ?_
  rintro e w2 ⟨n, A', c', p', L, a, b, F, cf, f, rfl, hn2, hn5, hL7, ha0, ha5, hb0, hb5, ho, hof, hf7, _, _, hg⟩
  go_wp2_with fail
  (try simp only [Exit.inBlock, Exit.then]); refine bodyPost_ret (results_tmp5 rfl _ _ _) rfl ?_
  exact ⟨n, A', c', L, a, b, F, cf, f, rfl, hn2, hn5, hL7, ha0, ha5, hb0, hb5, ho.more hb.size, hof.more hb.size, hf7, below_grown2 hb hg hgB hb.size⟩
theorem drawLoadTraffic (A : Option Addr) (n c : Nat) (hnc : n ≤ c) (hc : c ≤ maxLen) (w : World) (h : Byt w w.heap.size A n) :
    Calls Try.prog 41 #[.slice A n c] w (Ld2Post w) := by
  have hopen := Lib.hid (open_any A n c hnc hc w h)
  go_enter Try.func41, Try.ntmps41
  go_wp2_with fail
  refine hopen.out.mono ?_
  rintro e w1 ⟨g, rfl, hr, hb⟩
  have hgB : w.heap.size ≤ g := by obtain ⟨_, _, _, _, h2, _⟩ := hr; exact h2
  go_wp2_with fail
  refine (dLoad _ g 0 (by omega) _ hr).mono ?_
  rintro e w2 ⟨n, A', c', p', L, a, b, F, cf, f, rfl, hn2, hn5, hL7, ha0, ha5, hb0, hb5, ho, hof, hf7, _, _, hg⟩
  go_wp2_with fail
  (try simp only [Exit.inBlock, Exit.then]); refine bodyPost_ret (results_tmp5 rfl _ _ _) rfl ?_
  exact ⟨n, A', c', L, a, b, F, cf, f, rfl, hn2, hn5, hL7, ha0, ha5, hb0, hb5, ho.more hb.size, hof.more hb.size, hf7, below_grown2 hb hg hgB hb.size⟩
set_option maxRecDepth 100000 in
theorem drawCutOf (A : Option Addr) (n c : Nat) (hnc : n ≤ c) (hc : c ≤ maxLen) (w : World) (h : Byt w w.heap.size A n) :
    Calls Try.prog 23 #[.slice A n c] w (Ld2Post w) := by
  have hopen := Lib.hid (open_any A n c hnc hc w h)
  clear h hnc hc
  go_enter Try.func23, Try.ntmps23
  go_wp2_with fail
  refine hopen.out.mono ?_
  rintro e w1 ⟨g, rfl, hr1, hb1⟩
  have hgB : w.heap.size ≤ g := by obtain ⟨_, _, _, _, h2, _⟩ := hr1; exact h2
  have hgl := hr1.lt
  go_wp2_with fail
  refine (dTwo _ g 0 (by omega) _ hr1).mono ?_
  rintro e w2 ⟨ni, A', c', p0, L, a, b, rfl, hn2, hn5, hL7, ha0, ha5, hb0, hb5, ho, hr, hp0, hg⟩
  obtain ⟨m, rfl⟩ := Int.eq_ofNat_of_zero_le (by omega : 0 ≤ ni)
  have hs2 := hg.size
  have Ho := Lib.hid ho
  have hB1 := hb1.size
  have Hgo : Hid (∀ w3 row, w2.grownBy w3 row → (∀ k, row = some k → k = g ∨ w2.heap.size ≤ k) → OwnL w3 w1.heap.size (.slice A' L.length c') L) := fun w3 row hg3 hk => by
    refine World.ownsRow.kept Ho.out hg3 ?_
    cases hv : Value.ownBlock (.slice A' L.length c') with
    | none => exact .inl rfl
    | some j =>
      refine .inr fun e => ?_
      have h2 := Ho.out.block j hv
      have h3 := hk j e.symm
      omega
  have Hret : Hid (∀ w3 G cg (s : List Int), s.length ≤ 7 → OwnL w3 w1.heap.size (.slice A' L.length c') L → Own w3 w1.heap.size (.slice G s.length cg) s → w1.grownBy w3 (some g) → Ld2Post w (.returned (.tuple #[.int .i64 m, .slice A' L.length c', .int .i64 a, .int .i64 b, .slice G s.length cg])) w3) := fun w3 G cg s hs ho3 hos hg3 =>
    ⟨m, A', c', L, a, b, G, cg, s, rfl, hn2, hn5, hL7, ha0, ha5, hb0, hb5, ho3.more hB1, hos.more hB1, hs, below_grown2 hb1 hg3 hgB hB1⟩
  clear ho hb1 hr1 hopen
  go_wp2_with fail
  go_loopw [12, 13] (fun v i wr => ∃ (k : Nat) (s : List Int) (G : Option Addr) (cg p' : Nat), k ≤ m ∧ i = .int .i64 k ∧ v = .slice G k cg ∧ Hid (s.length = k) ∧ Own wr w2.heap.size (.slice G k cg) s ∧ OwnL wr w1.heap.size (.slice A' L.length c') L ∧ Rd wr w.heap.size g p' ∧ p' ≤ 110 + k ∧ w1.grownBy wr (some g) ∧ w2.heap.size ≤ wr.heap.size) (fun _ i _ => m - (intOf i).toNat)
  case atStart => exact ⟨0, [], _, _, p0, by omega, rfl, rfl, rfl, Own.lit0 w2 w2.heap.size (Nat.le_refl _), Ho.out.alloc _, hr.alloc _, by omega, grown_alloc hg _, by simp⟩
  case round =>
    clear hr hg
    obtain ⟨k, s, G, cg, p', hk, rfl, rfl, hsl, hos, ho3, hr3, hp3, hg3, hs3⟩ := hrel
    by_cases hkm : k < m
    · go_wp2_with fail
      refine (pick_any w.heap.size g p' 2 (by omega) (by omega) _ hr3 (by omega)).mono ?_
      rintro e w4 ⟨y, rfl, _, hr4, hg4⟩
      have hos4 := hos.kept hg4 (fun j hj => by injection hj with hj; omega)
      have ho4 := ho3.kept hg4 (fun j hj => by injection hj with hj; omega)
      have hs4 := hg4.size
      replace hg4 := grown_trans hg3 hg4
      clear hos ho3 hr3 hg3
      go_wp2_with (at_builtin; refine app1 _ rfl _ _ rfl w2.heap.size _ _ rfl (Own.alloc hos4 (Obj.cells #[.int .i64 y] 3)) k hsl.out ⟨w4.heap.size, 0, none⟩ y rfl (alloc1_cell rfl) (by omega) (by simp; omega) ?_; intro A5 c5 w5 hos5 hgr5)
      have hba := (Own.alloc hos4 (Obj.cells #[.int .i64 y] 3)).block
      have hr5 := (hr4.alloc (Obj.cells #[.int .i64 y] 3)).grown hgr5 (fun h => by have := hba g h.symm; omega) (fun k hk => by have := hba k hk; omega)
      have ho5 := Ho.out.past (ho4.alloc _) hgr5 (fun k hk => (hba k hk).1)
      have hg5 := grown_own (grown_alloc hg4 _) hgr5 (fun k hk => by have := hba k hk; omega)
      have hs5 := hgr5.size
      go_wp2_with fail
      go_roundw
      case rel => exact ⟨k + 1, s ++ [y], A5, c5, p' + 1, by omega, by go_num, rfl, by show _ = _; rw [List.length_append, hsl.out]; rfl, hos5, ho5, hr5, by omega, hg5, by simp at hs5; omega⟩
      case measure => simp [intOf]; omega
    · obtain rfl : k = m := by omega
      have hslo := hsl.out
      have hs1 : w1.heap.size ≤ w2.heap.size := hs2
      have Hr0 : Hid (Ld2Post w (.returned (.tuple #[.int .i64 k, .slice A' L.length c', .int .i64 a, .int .i64 b, .slice G k cg])) wr) := by
        have := Hret.out wr G cg s (by omega) ho3 (by rw [hslo]; exact hos.more hs1) hg3
        rw [hslo] at this; exact this
      by_cases hall : 0 ≤ a ∧ a < k ∧ 0 ≤ b ∧ b < k
      · obtain ⟨ha1, ha2, hb1, hb2⟩ := hall
        obtain ⟨aa, rfl⟩ := Int.eq_ofNat_of_zero_le ha1
        obtain ⟨bb, rfl⟩ := Int.eq_ofNat_of_zero_le hb1
        have haa : aa < s.length := by omega
        have hbb : bb < s.length := by omega
        obtain ⟨g4, rfl, hg4B, hg4l⟩ := hos.some (by omega)
        go_wp2_with fail
        refine (pick_any w.heap.size g p' 8 (by omega) (by omega) _ hr3 (by omega)).mono ?_
        rintro e w4 ⟨x, rfl, _, hr4, hg4⟩
        have hos4 := hos.kept hg4 (fun j hj => by injection hj with hj; omega)
        have ho4 := ho3.kept hg4 (fun j hj => by injection hj with hj; omega)
        replace hg4 := grown_trans hg3 hg4
        clear Hr0 hos ho3 hr3 hg3
        by_cases hx : 0 < x
        · have hf1 := hos4.frozen aa
          have hc1 := hos4.cell (List.getElem?_eq_getElem haa)
          have st1 := hos4.stored aa 1 haa
          have hbb' : bb < (s.set aa 1).length := by rw [List.length_set]; exact hbb
          have hf2 := st1.frozen bb
          have hc2 := st1.cell (List.getElem?_eq_getElem hbb')
          have st2 := st1.stored bb 0 hbb'
          have Hr2 : Hid (Ld2Post w (.returned (.tuple #[.int .i64 k, .slice A' L.length c', .int .i64 aa, .int .i64 bb, .slice (some ⟨g4, 0, none⟩) k cg])) ((w4.setCell ⟨g4, aa, none⟩ (.int .i64 1)).setCell ⟨g4, bb, none⟩ (.int .i64 0))) := by
            have hlen : ((s.set aa 1).set bb 0).length = k := by simp [hslo]
            have := Hret.out ((w4.setCell ⟨g4, aa, none⟩ (.int .i64 1)).setCell ⟨g4, bb, none⟩ (.int .i64 0)) (some ⟨g4, 0, none⟩) cg ((s.set aa 1).set bb 0) (by omega)
              (Ho.out.past (Ho.out.past ho4 (grown_set w4 g4 aa (.int .i64 1)) (fun k hk => by injection hk with hk; omega)) (grown_set _ g4 bb (.int .i64 0)) (fun k hk => by injection hk with hk; omega))
              (by rw [hlen]; exact st2.more hs1) (grown_own (grown_own hg4 (grown_set w4 g4 aa (.int .i64 1)) (fun k hk => by injection hk with hk; omega)) (grown_set _ g4 bb (.int .i64 0)) (fun k hk => by injection hk with hk; omega))
            rw [hlen] at this; exact this
          clear st1 st2 hos4 ho4 hg4 hr4
          go_wp2_with fail
          (try simp only [Exit.inBlock, Exit.then]); refine bodyPost_ret (results_tmp5 rfl _ _ _) rfl ?_
          exact Hr2.out
        · have Hr1 : Hid (Ld2Post w (.returned (.tuple #[.int .i64 k, .slice A' L.length c', .int .i64 aa, .int .i64 bb, .slice (some ⟨g4, 0, none⟩) k cg])) w4) := by
            have := Hret.out w4 (some ⟨g4, 0, none⟩) cg s (by omega) ho4 (by rw [hslo]; exact hos4.more hs1) hg4
            rw [hslo] at this; exact this
          clear hos4 ho4 hg4 hr4
          go_wp2_with fail
          (try simp only [Exit.inBlock, Exit.then]); refine bodyPost_ret (results_tmp5 rfl _ _ _) rfl ?_
          exact Hr1.out
      · clear hos ho3 hr3 hg3
        by_cases c1 : 0 ≤ a
        · by_cases c2 : a < k
          · by_cases c3 : 0 ≤ b
            · have c4 : ¬ b < k := fun h => hall ⟨c1, c2, c3, h⟩
              clear hall
              go_wp2_with fail
              (try simp only [Exit.inBlock, Exit.then]); refine bodyPost_ret (results_tmp5 rfl _ _ _) rfl ?_
              exact Hr0.out
            · clear hall
              go_wp2_with fail
              (try simp only [Exit.inBlock, Exit.then]); refine bodyPost_ret (results_tmp5 rfl _ _ _) rfl ?_
              exact Hr0.out
          · clear hall
            go_wp2_with fail
            (try simp only [Exit.inBlock, Exit.then]); refine bodyPost_ret (results_tmp5 rfl _ _ _) rfl ?_
            exact Hr0.out
        · clear hall
          go_wp2_with fail
          (try simp only [Exit.inBlock, Exit.then]); refine bodyPost_ret (results_tmp5 rfl _ _ _) rfl ?_
          exact Hr0.out
end Go.Proofs.Ytkcfclkpbmeaiaa
