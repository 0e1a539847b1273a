/- What the laws draw: loads, places. -/
import Derived.Test.YtkcfclkpbmeaiaaTwo
import Derived.Test.YtkcfclkpbmeaiaaTraf
import Derived.Test.YtkcfclkpbmeaiaaLawP
import Derived.Test.YtkcfclkpbmeaiaaAppO
namespace Go.Proofs.Ytkcfclkpbmeaiaa
set_option linter.unusedVariables false
set_option linter.unusedSimpArgs false
open Go.RowKit
theorem OwnL.past {w0 w w' : World} {B : Nat} {v : Value} {L : List Ln} {row : Option Nat} (h : OwnL w0 B v L) (h1 : OwnL w B v L) (hg : w.grownBy w' row) (hne : ∀ k, row = some k → w0.heap.size ≤ k) : OwnL w' B v L :=
  World.ownsRow.kept h1 hg (by
    cases hv : v.ownBlock with
    | none => exact .inl rfl
    | some k =>
      refine .inr fun e => ?_
      have h2 := (h.block k hv).2
      have h3 := hne k e.symm
      omega)
def AtPost (B g p : Nat) (n : Nat) (w : World) (e : Ending) (w' : World) : Prop := ∃ k : Int, e = .returned (.int .i64 k) ∧ -1 ≤ k ∧ k ≤ n ∧ (∃ p', Rd w' B g p' ∧ p' ≤ p + 2) ∧ w.grownBy w' (some g)
set_option maxRecDepth 100000 in
theorem dAt (B g p n : Nat) (hp : p ≤ 1000) (hn : n ≤ 10) (w : World) (h : Rd w B g p) :
    Calls Try.prog 59 #[.pointer (some ⟨g, 0, none⟩), .int .i64 n] w (AtPost B g p n w) := by
  have hgl := h.lt
  have two : ∀ (p' : Nat) (w3 : World), p' ≤ 2000 → Rd w3 B g p' → w.heap.size ≤ w3.heap.size → ∀ y : Int, 0 ≤ y → y < 2 → ∀ w5 : World, (w3.alloc (Obj.cells #[.int .i64 (-1), .int .i64 n] 3)).grownBy w5 (some g) → (w5.cell? ⟨w3.heap.size, 0, none⟩ = some (.int .i64 (-1))) ∧ w5.cell? ⟨w3.heap.size, 1, none⟩ = some (.int .i64 n) := fun p' w3 _ hr hsz y _ _ w5 hg5 => by
    have hlit := (Row.newS w3 3 #[.int .i64 (-1), .int .i64 n] (g := w3.heap.size) rfl rfl).grown hg5 (by simp; omega)
    exact ⟨hlit.cellI (i := 0) rfl, hlit.cellI (i := 1) rfl⟩
  have Two := Lib.hid two
  clear two
  by_cases h0 : n = 0
  · subst h0
    go_enter Try.func59, Try.ntmps59
    go_wp2_with fail
    refine (pick_any B g p 2 (by omega) (by omega) _ (h.alloc _) (by omega)).mono ?_
    rintro e w5 ⟨y, rfl, ⟨hy0, hy1, _⟩, hr5, hg5⟩
    have hy2 := hy1 (by omega)
    obtain ⟨c0, c1⟩ := Two.out p w (by omega) h (Nat.le_refl _) y hy0 hy2 w5 hg5
    replace hg5 := grown_trans (grown_alloc (grown_refl _ _) _) hg5
    clear hy1
    rcases (by omega : y = 0 ∨ y = 1) with rfl | rfl
    · go_wp2_with fail
      go_ret
      exact ⟨-1, rfl, by omega, by omega, ⟨_, hr5, by omega⟩, hg5⟩
    · go_wp2_with fail
      go_ret
      exact ⟨0, rfl, by omega, by omega, ⟨_, hr5, by omega⟩, hg5⟩
  · have hn0 : ((n : Int) == 0) = false := bF (by omega)
    go_enter Try.func59, Try.ntmps59
    go_wp2_with fail
    refine (pick_any B g p 20 (by omega) (by omega) _ h (by omega)).mono ?_
    rintro e w1 ⟨x, rfl, _, hr1, hg1⟩
    have hs1 := hg1.size
    by_cases hx : x = 0
    · subst hx
      go_wp2_with fail
      refine (pick_any B g (p + 1) 2 (by omega) (by omega) _ (hr1.alloc _) (by omega)).mono ?_
      rintro e w5 ⟨y, rfl, ⟨hy0, hy1, _⟩, hr5, hg5⟩
      have hy2 := hy1 (by omega)
      obtain ⟨c0, c1⟩ := Two.out (p + 1) w1 (by omega) hr1 hs1 y hy0 hy2 w5 hg5
      replace hg5 := grown_trans (grown_alloc hg1 _) hg5
      clear hy1 hg1 hr1
      rcases (by omega : y = 0 ∨ y = 1) with rfl | rfl
      · go_wp2_with fail
        go_ret
        exact ⟨-1, rfl, by omega, by omega, ⟨_, hr5, by omega⟩, hg5⟩
      · go_wp2_with fail
        go_ret
        exact ⟨n, rfl, by omega, by omega, ⟨_, hr5, by omega⟩, hg5⟩
    · have t0 := bF hx
      go_wp2_with fail
      refine (pick_any B g (p + 1) n (by omega) (by omega) _ hr1 (by omega)).mono ?_
      rintro e w5 ⟨y, rfl, ⟨hy0, hy1, _⟩, hr5, hg5⟩
      have hy2 := hy1 (by omega)
      replace hg5 := grown_trans hg1 hg5
      clear hy1 hg1 hr1
      go_wp2_with fail
      go_ret
      exact ⟨y, rfl, by omega, by omega, ⟨_, hr5, by omega⟩, hg5⟩
def LdPost (B g p : Nat) (w : World) (e : Ending) (w' : World) : Prop := ∃ (n : Int) (A : Option Addr) (c p' : Nat) (L : List Ln) (a b : Int) (F : Option Addr) (cf : Nat) (f : List Int), e = .returned (.tuple #[.int .i64 n, .slice A L.length c, .int .i64 a, .int .i64 b, .slice F f.length cf]) ∧ 2 ≤ n ∧ n ≤ 5 ∧ L.length ≤ 7 ∧ -1 ≤ a ∧ a ≤ 5 ∧ -1 ≤ b ∧ b ≤ 5 ∧ OwnL w' w.heap.size (.slice A L.length c) L ∧ Own w' w.heap.size (.slice F f.length cf) f ∧ f.length ≤ 7 ∧ Rd w' B g p' ∧ p' ≤ p + 110 ∧ w.grownBy w' (some g)
theorem loadV_le (n : Int) (L : List Ln) (p q : Int) : (loadV n L p q).length ≤ L.length := by
  cases h2 : twoOk n L p q with
  | true => rw [(load_is h2).1.2.1]; exact Nat.le_refl _
  | false => rw [loadV, h2]; simp
theorem made_own (w : World) (B m : Nat) (hB : B ≤ w.heap.size) (hm : m ≤ 1000000) : Own (w.alloc (Obj.cells (madeCells #[.int .i64 0] m) 3)) B (.slice (some ⟨w.heap.size, 0, none⟩) (List.replicate m (0 : Int)).length m) (List.replicate m 0) := by
  have h : Row (w.alloc (Obj.cells (madeCells #[.int .i64 0] m) 3)) w.heap.size 3 (ivs (List.replicate m 0)) := Row.newS _ 3 _ rfl (by rw [madeCells_toList', ivs_zero])
  have := h.own hB (by rw [List.length_replicate]; unfold maxLen; omega)
  rw [List.length_replicate] at this ⊢
  exact this
set_option maxRecDepth 100000 in
theorem dLoad (B g p : Nat) (hp : p ≤ 800) (w : World) (h : Rd w B g p) :
    Calls Try.prog 50 #[.pointer (some ⟨g, 0, none⟩)] w (LdPost B g p w) := by
  have HN := Lib.hid (dTwo B g p (by omega) w h)
  have hgl := h.lt
  have hBg : B ≤ g := by obtain ⟨_, _, _, _, h2, _⟩ := h; exact h2
  go_enter Try.func50, Try.ntmps50
  go_wp2_with fail
  refine HN.out.mono ?_
  rintro e w1 ⟨n, A, c, p1, L, a, b, rfl, hn2, hn5, hL7, ha0, ha5, hb0, hb5, ho1, hr1, hp1, hg1⟩
  have hs1 := hg1.size
  go_wp2_with fail
  refine (sTrafficLoad n A c L a b (by omega) _ ho1.lns).mono ?_
  rintro e w2 ⟨A3, c3, f, ok, rfl, ⟨hf, hok⟩, hof, hb2⟩
  have hf7 : f.length ≤ 7 := by rw [hf]; exact Nat.le_trans (loadV_le n L a b) hL7
  have hg2 := grownBy_of_below hb2 (Nat.le_refl _)
  have ho2 := ho1.below hb2
  have hr2 := hr1.grown hg2 (by simp) (fun k hk => by cases hk)
  replace hg2 := grown_own hg1 hg2 (fun k hk => by cases hk)
  have hs2 := hg2.size
  clear hf hok ho1 hr1 hg1 hb2 h HN
  obtain ⟨m, hm⟩ : ∃ m, m = L.length := ⟨_, rfl⟩
  have hmade := Lib.hid (fun (w3 : World) (h : w.heap.size ≤ w3.heap.size) => made_own w3 w.heap.size m h (by omega))
  have hmk := fun w => mk_row (P := Try.prog) 24 3 (.int .i64 0) 8 Try.underlying24 intInfo rfl (m : Int) m rfl (by omega) (by omega) w
  rw [← hm] at hL7 ho2 ⊢
  have Hm := Lib.hid hm
  clear hm
  have Hmake : Hid (∀ (w3 : World) (p3 : Nat), w.heap.size ≤ w3.heap.size → OwnL w3 w.heap.size (.slice A m c) L → Rd w3 B g p3 → p3 ≤ p + 110 → w.grownBy w3 (some g) → LdPost B g p w (.returned (.tuple #[.int .i64 n, .slice A m c, .int .i64 a, .int .i64 b, .slice (some ⟨w3.heap.size, 0, none⟩) m m])) (w3.alloc (Obj.cells (madeCells #[.int .i64 0] m) 3)).drew) := fun w3 p3 hs3 ho3 hr3 hp3 hg3 =>
    ⟨n, A, c, p3, L, a, b, some ⟨w3.heap.size, 0, none⟩, m, List.replicate m 0, by rw [← Hm.out, List.length_replicate], hn2, hn5, by rw [← Hm.out]; exact hL7, ha0, ha5, hb0, hb5, by rw [← Hm.out]; exact ho3.alloc _, (hmade.out w3 hs3).drew, by simp; exact hL7, hr3.alloc _, hp3, grown_drew (grown_alloc hg3 _)⟩
  have Hkeep : Hid (∀ (w3 : World) (p3 : Nat) (F : Option Addr) (cf : Nat) (f' : List Int), f'.length = f.length → Own w3 w.heap.size (.slice F f.length cf) f' → OwnL w3 w.heap.size (.slice A m c) L → Rd w3 B g p3 → p3 ≤ p + 110 → w.grownBy w3 (some g) → LdPost B g p w (.returned (.tuple #[.int .i64 n, .slice A m c, .int .i64 a, .int .i64 b, .slice F f.length cf])) w3) := fun w3 p3 F cf f' hf' hof ho3 hr3 hp3 hg3 =>
    ⟨n, A, c, p3, L, a, b, F, cf, f', by rw [← Hm.out, hf'], hn2, hn5, by rw [← Hm.out]; exact hL7, ha0, ha5, hb0, hb5, by rw [← Hm.out]; exact ho3, by rw [hf']; exact hof, by rw [hf']; exact hf7, hr3, hp3, hg3⟩
  cases ok with
  | false =>
    go_wp2_with fail
    go_region
    go_wp2_with fail
    (try simp only [Exit.inBlock, Exit.then]); refine bodyPost_ret (results_tmp5 rfl _ _ _) rfl ?_
    exact Hmake.out w2 p1 hs2 ho2 hr2 (by omega) hg2
  | true =>
    have hg4s : ∀ w4 : World, (w2.alloc (Obj.cells #[] 3)).grownBy w4 (some w2.heap.size) → Rd w4 B g p1 ∧ OwnL w4 w.heap.size (.slice A m c) L ∧ w.grownBy w4 (some g) ∧ w2.heap.size ≤ w4.heap.size := fun w4 hg4 =>
      ⟨(hr2.alloc _).grown hg4 (by simp; omega) (fun k hk => by injection hk with hk; omega), ho2.past (ho2.alloc _) hg4 (fun k hk => by injection hk with hk; omega), grown_own (grown_alloc hg2 _) hg4 (fun k hk => by injection hk with hk; omega), by have := hg4.size; simp at this; omega⟩
    have Hg4 := Lib.hid hg4s
    clear hg4s
    go_wp2_with (at_builtin; refine appO _ rfl _ _ rfl w2.heap.size _ [] rfl (Own.lit0 w2 w2.heap.size (Nat.le_refl _)) w1.heap.size A3 f.length c3 f rfl (Own.alloc hof _) (by simp; omega) (by simp) ?_; intro A4 c4 w4 ho4 hg4)
    rw [List.nil_append] at ho4
    obtain ⟨hr4, ho4L, hg5, hs4⟩ := Hg4.out w4 hg4
    have Ho2 := Lib.hid ho2
    clear hg4 Hg4 hof hr2 ho2 hg2
    go_wp2_with fail
    refine (pick_any B g p1 6 (by omega) (by omega) _ hr4 (by omega)).mono ?_
    rintro e w5 ⟨x, rfl, _, hr5, hg6⟩
    have ho5 := ho4.kept hg6 (fun j hj => by injection hj with hj; omega)
    have ho5L := ho4L.kept hg6 (fun j hj => by injection hj with hj; omega)
    replace hg6 := grown_trans hg5 hg6
    have hs5 := hg6.size
    clear ho4 ho4L hr4 hg5 hs4
    rcases (by omega : x = 0 ∨ x = 1 ∨ (x ≠ 0 ∧ x ≠ 1)) with rfl | rfl | ⟨x0, x1⟩
    · go_wp2_with fail
      go_region
      go_wp2_with fail
      (try simp only [Exit.inBlock, Exit.then]); refine bodyPost_ret (results_tmp5 rfl _ _ _) rfl ?_
      exact Hmake.out w5 (p1 + 1) (by omega) ho5L hr5 (by omega) hg6
    · by_cases hf0 : f.length = 0
      · obtain rfl := List.eq_nil_of_length_eq_zero hf0
        go_wp2_with fail
        (try simp only [Exit.inBlock, Exit.then]); refine bodyPost_ret (results_tmp5 rfl _ _ _) rfl ?_
        exact Hkeep.out w5 (p1 + 1) A4 c4 [] rfl (ho5.more hs2) ho5L hr5 (by omega) hg6
      · obtain ⟨g4, rfl, hg4B, hg4l⟩ := ho5.some (by omega)
        have t0 : decide ((f.length : Int) > 0) = true := decide_eq_true (by omega)
        go_wp2_with fail
        refine (pick_any B g (p1 + 1) f.length (by omega) (by omega) _ hr5 (by omega)).mono ?_
        rintro e w6 ⟨i, rfl, ⟨hi0, hi1, _⟩, hr6, hg7⟩
        have hi2 := hi1 (by omega)
        have ho6 := ho5.kept hg7 (fun j hj => by injection hj with hj; omega)
        have ho6L := ho5L.kept hg7 (fun j hj => by injection hj with hj; omega)
        replace hg7 := grown_trans hg6 hg7
        clear hi1 hr5 hg6 ho5 ho5L
        go_wp2_with fail
        refine (pick_any B g (p1 + 2) 5 (by omega) (by omega) _ hr6 (by omega)).mono ?_
        rintro e w7 ⟨v, rfl, ⟨hv0, hv1, _⟩, hr7, hg8⟩
        have hv2 := hv1 (by omega)
        have ho7 := ho6.kept hg8 (fun j hj => by injection hj with hj; omega)
        have ho7L := ho6L.kept hg8 (fun j hj => by injection hj with hj; omega)
        replace hg8 := grown_trans hg7 hg8
        clear hv1 hr6 hg7 ho6 ho6L
        obtain ⟨ii, rfl⟩ := Int.eq_ofNat_of_zero_le hi0
        have hii : ii < f.length := by omega
        have hfz := ho7.frozen ii
        have hst := ho7.stored ii (v - 2) hii
        have hcl := ho7.cell (List.getElem?_eq_getElem hii)
        have hLn := Ho2.out.past ho7L (grown_set w7 g4 ii (.int .i64 (v - 2))) (fun k hk => by injection hk with hk; omega)
        have hRn := hr7.grown (grown_set w7 g4 ii (.int .i64 (v - 2))) (by simp; omega) (fun k hk => by injection hk with hk; omega)
        have hGn := grown_own hg8 (grown_set w7 g4 ii (.int .i64 (v - 2))) (fun k hk => by injection hk with hk; omega)
        go_wp2_with fail
        (try simp only [Exit.inBlock, Exit.then]); refine bodyPost_ret (results_tmp5 rfl _ _ _) rfl ?_
        exact Hkeep.out _ (p1 + 3) _ c4 (f.set ii (v - 2)) (List.length_set ..) (hst.more hs2) hLn hRn (by omega) hGn
    · have t0 := bF x0
      have t1 := bF x1
      go_wp2_with fail
      (try simp only [Exit.inBlock, Exit.then]); refine bodyPost_ret (results_tmp5 rfl _ _ _) rfl ?_
      exact Hkeep.out w5 (p1 + 1) A4 c4 f rfl (ho5.more hs2) ho5L hr5 (by omega) hg6
end Go.Proofs.Ytkcfclkpbmeaiaa
