/- What the laws draw: a net and two stations. -/
import Derived.Test.YtkcfclkpbmeaiaaDraw
import Derived.Test.YtkcfclkpbmeaiaaByt
import Derived.Test.YtkcfclkpbmeaiaaRet
import Derived.Deep.RegionWith
namespace Go.Proofs.Ytkcfclkpbmeaiaa
set_option linter.unusedVariables false
set_option linter.unusedSimpArgs false
open Go.RowKit
def TwoPost (B g p : Nat) (w : World) (e : Ending) (w' : World) : Prop := ∃ (n : Int) (A : Option Addr) (c p' : Nat) (L : List Ln) (a b : Int), e = .returned (.tuple #[.int .i64 n, .slice A L.length c, .int .i64 a, .int .i64 b]) ∧ 2 ≤ n ∧ n ≤ 5 ∧ L.length ≤ 7 ∧ -1 ≤ a ∧ a ≤ 5 ∧ -1 ≤ b ∧ b ≤ 5 ∧ OwnL w' w.heap.size (.slice A L.length c) L ∧ Rd w' B g p' ∧ p' ≤ p + 104 ∧ w.grownBy w' (some g)
theorem grown_drew {a w : World} {row : Option Nat} (h : a.grownBy w row) : a.grownBy w.drew row := ⟨h.os, h.tape, h.output, h.size, h.block⟩
theorem pick_nat (B g p : Nat) (n : Nat) (hn : n ≤ 1000000) (hn0 : 1 ≤ n) (w : World) (h : Rd w B g p) (hp : p ≤ 1000000) :
    Calls Try.prog 65 #[.pointer (some ⟨g, 0, none⟩), .int .i64 n] w fun e w' => ∃ k : Nat, e = .returned (.int .i64 k) ∧ k < n ∧ Rd w' B g (p + 1) ∧ w.grownBy w' (some g) := by
  refine (pick_any B g p n (by omega) (by omega) w h hp).mono ?_
  rintro e w' ⟨v, rfl, ⟨h0, h1, _⟩, hr, hg⟩
  obtain ⟨k, rfl⟩ := Int.eq_ofNat_of_zero_le h0
  exact ⟨k, rfl, by have := h1 (by omega); omega, hr, hg⟩
set_option maxHeartbeats 1000000 in
set_option maxRecDepth 100000 in
theorem dTwo (B g p : Nat) (hp : p ≤ 1000) (w : World) (h : Rd w B g p) :
    Calls Try.prog 64 #[.pointer (some ⟨g, 0, none⟩)] w (TwoPost B g p w) := by
  have HN := Lib.hid (dNet B g p hp w h)
  have hgl := h.lt
  have hBg : B ≤ g := by obtain ⟨_, _, _, _, h2, _⟩ := h; exact h2
  go_enter Try.func64, Try.ntmps64
  go_wp2_with fail
  refine HN.out.mono ?_
  rintro e w1 ⟨n, A, c, p1, L, rfl, hn2, hn5, hL7, ho1, hr1, hp1, hg1⟩
  go_wp2_with fail
  refine (pick_any B g p1 n (by omega) (by omega) _ hr1 (by omega)).mono ?_
  rintro e w2 ⟨a, rfl, ⟨ha0, ha1, _⟩, hr2, hg2⟩
  have ha5 := ha1 (by omega)
  have ho2 := ho1.kept hg2 (fun j hj => by injection hj with hj; omega)
  replace hg2 := grown_trans hg1 hg2
  clear ha1 ho1 hr1 hg1
  go_wp2_with fail
  refine (pick_any B g (p1 + 1) 20 (by omega) (by omega) _ hr2 (by omega)).mono ?_
  rintro e w3 ⟨x, rfl, _, hr3, hg3⟩
  have ho3 := ho2.kept hg3 (fun j hj => by injection hj with hj; omega)
  replace hg3 := grown_trans hg2 hg3
  clear ho2 hr2 hg2
  by_cases hx : x = 0
  · subst hx
    have hsz := hg3.size
    have Hlit : Hid (∀ k : Nat, k < 3 → ∃ b : Int, -1 ≤ b ∧ b ≤ 5 ∧ ([Value.int .i64 a, .int .i64 (-1), .int .i64 n] : List Value)[k]? = some (.int .i64 b)) := fun k hk => by
      rcases (by omega : k = 0 ∨ k = 1 ∨ k = 2) with rfl | rfl | rfl
      · exact ⟨a, by omega, by omega, rfl⟩
      · exact ⟨-1, by omega, by omega, rfl⟩
      · exact ⟨n, by omega, by omega, rfl⟩
    have Hnew : Hid (∀ (w : World) (k : Nat) (b : Int), ([Value.int .i64 a, .int .i64 (-1), .int .i64 n] : List Value)[k]? = some (.int .i64 b) → (w.alloc (Obj.cells #[.int .i64 a, .int .i64 (-1), .int .i64 n] 3)).cell? ⟨w.heap.size, k, none⟩ = some (.int .i64 b)) := fun w k b h =>
      (Row.newS w 3 #[.int .i64 a, .int .i64 (-1), .int .i64 n] (g := w.heap.size) rfl rfl).cellI h
    go_wp2_with fail
    have Hcell : Hid (∀ (w5 : World) (k : Nat) (b : Int), (w3.alloc (Obj.cells #[.int .i64 a, .int .i64 (-1), .int .i64 n] 3)).drew.grownBy w5 (some g) → ([Value.int .i64 a, .int .i64 (-1), .int .i64 n] : List Value)[k]? = some (.int .i64 b) → w5.cell? ⟨w3.heap.size, k, none⟩ = some (.int .i64 b)) := fun w5 k b hg5 h =>
      hg5.cell (Hnew.out w3 k b h) (by simp; omega)
    have Hall : Hid (∀ (w5 : World) (b : Int), (w3.alloc (Obj.cells #[.int .i64 a, .int .i64 (-1), .int .i64 n] 3)).drew.grownBy w5 (some g) → Rd w5 B g (p1 + 2 + 1) → -1 ≤ b → b ≤ 5 → TwoPost B g p w (.returned (.tuple #[.int .i64 n, .slice A L.length c, .int .i64 a, .int .i64 b])) w5) := fun w5 b hg5 hr5 hb0 hb5 =>
      ⟨n, A, c, p1 + 2 + 1, L, a, b, rfl, hn2, hn5, hL7, by omega, by omega, hb0, hb5, (OwnL.alloc ho3 _).drew.kept hg5 (fun j hj => by injection hj with hj; omega), hr5, by omega, grown_trans (grown_drew (grown_alloc hg3 _)) hg5⟩
    have Hall2 : Hid (∀ (w5 : World) (b : Int) (o : Obj), w3.drew.grownBy w5 (some g) → Rd w5 B g (p1 + 2 + 1) → -1 ≤ b → b ≤ 5 → TwoPost B g p w (.returned (.tuple #[.int .i64 n, .slice A L.length c, .int .i64 a, .int .i64 b])) (w5.alloc o)) := fun w5 b o hg5 hr5 hb0 hb5 =>
      ⟨n, A, c, p1 + 2 + 1, L, a, b, rfl, hn2, hn5, hL7, by omega, by omega, hb0, hb5, (OwnL.kept (w := w3.drew) ho3 hg5 (fun j hj => by injection hj with hj; omega)).alloc _, hr5.alloc _, by omega, grown_alloc (grown_trans (grown_drew hg3) hg5) _⟩
    have Hr3 := Lib.hid hr3
    clear ho3 hg3 hr3
    go_region_with (first
      | (go_at_call_of 65 (World.alloc w3 (Obj.cells #[.int .i64 a, .int .i64 (-1), .int .i64 n] 3)); fail)
      | (go_at_call 65; refine (pick_nat B g (p1 + 2) 3 (by omega) (by omega) (w3.alloc _).drew ?_ (by omega)).mono ?_; exact Hr3.out.alloc _; rintro e w5 ⟨k, rfl, hk, hr5, hg5⟩; obtain ⟨b, hb0, hb5, hbk⟩ := Hlit.out k hk; have hcb := Hcell.out w5 k b hg5 hbk)
      | (go_at_call 65; refine (pick_nat B g (p1 + 2) 3 (by omega) (by omega) w3.drew ?_ (by omega)).mono ?_; exact Hr3.out; rintro e w5 ⟨k, rfl, hk, hr5, hg5⟩; obtain ⟨b, hb0, hb5, hbk⟩ := Hlit.out k hk; have hcb := Hnew.out w5 k b hbk))
    all_goals go_wp2_with fail
    all_goals (try simp only [Exit.inBlock, Exit.then]); refine bodyPost_ret (results_tmp4 rfl _ _ _) rfl ?_
    all_goals (first | exact Hall.out _ _ hg5 hr5 hb0 hb5 | exact Hall2.out _ _ _ hg5 hr5 hb0 hb5)
  · have t0 := bF hx
    have hne : ¬ n = 0 := by omega
    have e1 : IntKind.i64.wrap (n - 1) = n - 1 := IntWalk.i64_in _ (by omega)
    have e2 : IntKind.i64.wrap (a + 1) = a + 1 := IntWalk.i64_in _ (by omega)
    have hmod : Hid (∀ y : Int, 0 ≤ y → 0 ≤ (a + 1 + y).tmod n ∧ (a + 1 + y).tmod n < n) := fun y hy => ⟨Int.tmod_nonneg _ (by omega), Int.tmod_lt_of_pos _ (by omega)⟩
    have Hall5 : Hid (∀ (w5 : World) (t : Int), w3.drew.grownBy w5 (some g) → Rd w5 B g (p1 + 2 + 1) → 0 ≤ t ∧ t < n → TwoPost B g p w (.returned (.tuple #[.int .i64 n, .slice A L.length c, .int .i64 a, .int .i64 t])) w5) := fun w5 t hg5 hr5 ht =>
      ⟨n, A, c, p1 + 2 + 1, L, a, t, rfl, hn2, hn5, hL7, by omega, by omega, by omega, by omega, OwnL.kept (w := w3.drew) ho3 hg5 (fun j hj => by injection hj with hj; omega), hr5, by omega, grown_trans (grown_drew hg3) hg5⟩
    have Hr3 := Lib.hid hr3
    clear ho3 hg3 hr3
    go_wp2_with fail
    go_region_with (go_at_call 65; refine (pick_any B g (p1 + 2) (n - 1) (by omega) (by omega) w3.drew ?_ (by omega)).mono ?_; exact Hr3.out; rintro e w5 ⟨y, rfl, ⟨hy0, hy1, _⟩, hr5, hg5⟩; have hy3 := hy1 (by omega); clear hy1; have e3 : IntKind.i64.wrap (a + 1 + y) = a + 1 + y := IntWalk.i64_in _ (by omega))
    all_goals go_simp
    all_goals go_wp2_with fail
    all_goals (try simp only [Exit.inBlock, Exit.then]); refine bodyPost_ret (results_tmp4 rfl _ _ _) rfl ?_
    all_goals exact Hall5.out _ _ hg5 hr5 (hmod.out _ hy0)
/-- The draws that are a net and two stations. -/
def Two2Post (w : World) (e : Ending) (w' : World) : Prop := ∃ (n : Int) (A : Option Addr) (c : Nat) (L : List Ln) (a b : Int), e = .returned (.tuple #[.int .i64 n, .slice A L.length c, .int .i64 a, .int .i64 b]) ∧ 2 ≤ n ∧ n ≤ 5 ∧ L.length ≤ 7 ∧ -1 ≤ a ∧ a ≤ 5 ∧ -1 ≤ b ∧ b ≤ 5 ∧ OwnL w' w.heap.size (.slice A L.length c) L ∧ Below w.heap.size w w'
theorem below_grown2 {B g : Nat} {w w1 w2 : World} (hb : Below B w w1) (hg : w1.grownBy w2 (some g)) (h : B ≤ g) (hB : B ≤ w1.heap.size) : Below B w w2 := hb.grown hg hB (fun j hj => by injection hj with hj; omega)
theorem drawTrafficMost (A : Option Addr) (n c : Nat) (hnc : n ≤ c) (hc : c ≤ maxLen) (w : World) (h : Byt w w.heap.size A n) :
    Calls Try.prog 39 #[.slice A n c] w (Two2Post w) := by
  have hopen := Lib.hid (open_any A n c hnc hc w h)
  go_enter Try.func39, Try.ntmps39
  go_wp2_with fail
  refine hopen.out.mono ?_
  rintro e w1 ⟨g, rfl, hr, hb⟩
  have hgB : w.heap.size ≤ g := by obtain ⟨_, _, _, _, h2, _⟩ := hr; exact h2
  go_wp2_with fail
  refine (dTwo _ g 0 (by omega) _ hr).mono ?_
  rintro e w2 ⟨n, A', c', p', L, a, b, rfl, hn2, hn5, hL7, ha0, ha5, hb0, hb5, ho, _, _, hg⟩
  go_wp2_with fail
  (try simp only [Exit.inBlock, Exit.then]); refine bodyPost_ret (results_tmp4 rfl _ _ _) rfl ?_
  exact ⟨n, A', c', L, a, b, rfl, hn2, hn5, hL7, ha0, ha5, hb0, hb5, ho.more hb.size, below_grown2 hb hg hgB hb.size⟩
theorem drawTrafficLoad (A : Option Addr) (n c : Nat) (hnc : n ≤ c) (hc : c ≤ maxLen) (w : World) (h : Byt w w.heap.size A n) :
    Calls Try.prog 36 #[.slice A n c] w (Two2Post w) := by
  have hopen := Lib.hid (open_any A n c hnc hc w h)
  go_enter Try.func36, Try.ntmps36
  go_wp2_with fail
  refine hopen.out.mono ?_
  rintro e w1 ⟨g, rfl, hr, hb⟩
  have hgB : w.heap.size ≤ g := by obtain ⟨_, _, _, _, h2, _⟩ := hr; exact h2
  go_wp2_with fail
  refine (dTwo _ g 0 (by omega) _ hr).mono ?_
  rintro e w2 ⟨n, A', c', p', L, a, b, rfl, hn2, hn5, hL7, ha0, ha5, hb0, hb5, ho, _, _, hg⟩
  go_wp2_with fail
  (try simp only [Exit.inBlock, Exit.then]); refine bodyPost_ret (results_tmp4 rfl _ _ _) rfl ?_
  exact ⟨n, A', c', L, a, b, rfl, hn2, hn5, hL7, ha0, ha5, hb0, hb5, ho.more hb.size, below_grown2 hb hg hgB hb.size⟩
theorem drawCutLeast (A : Option Addr) (n c : Nat) (hnc : n ≤ c) (hc : c ≤ maxLen) (w : World) (h : Byt w w.heap.size A n) :
    Calls Try.prog 33 #[.slice A n c] w (Two2Post w) := by
  have hopen := Lib.hid (open_any A n c hnc hc w h)
  go_enter Try.func33, Try.ntmps33
  go_wp2_with fail
  refine hopen.out.mono ?_
  rintro e w1 ⟨g, rfl, hr, hb⟩
  have hgB : w.heap.size ≤ g := by obtain ⟨_, _, _, _, h2, _⟩ := hr; exact h2
  go_wp2_with fail
  refine (dTwo _ g 0 (by omega) _ hr).mono ?_
  rintro e w2 ⟨n, A', c', p', L, a, b, rfl, hn2, hn5, hL7, ha0, ha5, hb0, hb5, ho, _, _, hg⟩
  go_wp2_with fail
  (try simp only [Exit.inBlock, Exit.then]); refine bodyPost_ret (results_tmp4 rfl _ _ _) rfl ?_
  exact ⟨n, A', c', L, a, b, rfl, hn2, hn5, hL7, ha0, ha5, hb0, hb5, ho.more hb.size, below_grown2 hb hg hgB hb.size⟩
theorem drawNetWeakest (A : Option Addr) (n c : Nat) (hnc : n ≤ c) (hc : c ≤ maxLen) (w : World) (h : Byt w w.heap.size A n) :
    Calls Try.prog 43 #[.slice A n c] w (Two2Post w) := by
  have hopen := Lib.hid (open_any A n c hnc hc w h)
  go_enter Try.func43, Try.ntmps43
  go_wp2_with fail
  refine hopen.out.mono ?_
  rintro e w1 ⟨g, rfl, hr, hb⟩
  have hgB : w.heap.size ≤ g := by obtain ⟨_, _, _, _, h2, _⟩ := hr; exact h2
  go_wp2_with fail
  refine (dTwo _ g 0 (by omega) _ hr).mono ?_
  rintro e w2 ⟨n, A', c', p', L, a, b, rfl, hn2, hn5, hL7, ha0, ha5, hb0, hb5, ho, _, _, hg⟩
  go_wp2_with fail
  (try simp only [Exit.inBlock, Exit.then]); refine bodyPost_ret (results_tmp4 rfl _ _ _) rfl ?_
  exact ⟨n, A', c', L, a, b, rfl, hn2, hn5, hL7, ha0, ha5, hb0, hb5, ho.more hb.size, below_grown2 hb hg hgB hb.size⟩
theorem drawNetNeeded (A : Option Addr) (n c : Nat) (hnc : n ≤ c) (hc : c ≤ maxLen) (w : World) (h : Byt w w.heap.size A n) :
    Calls Try.prog 48 #[.slice A n c] w (Two2Post w) := by
  have hopen := Lib.hid (open_any A n c hnc hc w h)
  go_enter Try.func48, Try.ntmps48
  go_wp2_with fail
  refine hopen.out.mono ?_
  rintro e w1 ⟨g, rfl, hr, hb⟩
  have hgB : w.heap.size ≤ g := by obtain ⟨_, _, _, _, h2, _⟩ := hr; exact h2
  go_wp2_with fail
  refine (dTwo _ g 0 (by omega) _ hr).mono ?_
  rintro e w2 ⟨n, A', c', p', L, a, b, rfl, hn2, hn5, hL7, ha0, ha5, hb0, hb5, ho, _, _, hg⟩
  go_wp2_with fail
  (try simp only [Exit.inBlock, Exit.then]); refine bodyPost_ret (results_tmp4 rfl _ _ _) rfl ?_
  exact ⟨n, A', c', L, a, b, rfl, hn2, hn5, hL7, ha0, ha5, hb0, hb5, ho.more hb.size, below_grown2 hb hg hgB hb.size⟩
end Go.Proofs.Ytkcfclkpbmeaiaa
