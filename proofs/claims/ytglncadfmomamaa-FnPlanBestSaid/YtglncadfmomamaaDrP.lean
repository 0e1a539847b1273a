/- What the laws of plans draw. -/
import Derived.Test.YtglncadfmomamaaDrW
namespace Go.Proofs.Ytglncadfmomamaa
set_option linter.unusedVariables false
set_option linter.unusedSimpArgs false
open Go.RowKit
def DrawnPlan (w : World) (e : Ending) (w' : World) : Prop := ∃ (s : ByteArray) (A : Option Addr) (c : Nat) (L : List Jb) (A2 : Option Addr) (c2 : Nat) (P : List Int), e = .returned (.tuple #[.string s, .slice A L.length c, .slice A2 P.length c2]) ∧ s.size ≤ 1000 ∧ L.length ≤ 4 ∧ P.length ≤ 4 ∧ (P.length ≤ c2 ∧ c2 ≤ maxLen) ∧
  Jbs w' w'.heap.size A L ∧ Iv w' 0 w'.heap.size A2 P ∧ Below w.heap.size w w'
theorem PlanDPost.drawn {B g p : Nat} {w0 w : World} {e : Ending} {w' : World} (h : PlanDPost B g p w e w') (hb : Below w0.heap.size w0 w) (hg : w0.heap.size ≤ g) : DrawnPlan w0 e w' := by
  obtain ⟨s, A, c, L, A2, c2, P, he, hs, hL, hP, hoL, hoP, hgr⟩ := h
  have hf : P.length ≤ c2 ∧ c2 ≤ maxLen := by
    obtain ⟨A', c', e, h1, h2⟩ := hoP.form
    injection e with _ _ e3
    subst e3
    exact ⟨h1, h2⟩
  exact ⟨s, A, c, L, A2, c2, P, he, hs, hL, hP, hf, hoL.jbs, hoP.iv.more (Nat.zero_le _) (Nat.le_refl _), hb.grown hgr hb.size (fun k hk => by injection hk with hk; omega)⟩
theorem drawPlanLoss (A : Option Addr) (n c : Nat) (hnc : n ≤ c) (hc : c ≤ maxLen) (w : World) (h : Byt w w.heap.size A n) :
    Calls Try.prog 43 #[.slice A n c] w (DrawnPlan w) := by
  go_enter Try.func43, Try.ntmps43
  go_wp2_with fail
  refine (open_any A n c hnc hc _ h).mono ?_
  rintro e w1 ⟨g, rfl, hr, hb⟩
  go_wp2_with fail
  refine (dPlan _ _ _ (by omega) _ hr).mono ?_
  rintro e w2 h2
  have h3 := h2.drawn hb hr.ge
  obtain ⟨s, A3, c3, L, A2, c2, P, rfl, hrest⟩ := h3
  clear h2
  go_wp2_with fail
  go_ret3
  exact ⟨s, A3, c3, L, A2, c2, P, rfl, hrest⟩
theorem drawPlanEnds (A : Option Addr) (n c : Nat) (hnc : n ≤ c) (hc : c ≤ maxLen) (w : World) (h : Byt w w.heap.size A n) :
    Calls Try.prog 44 #[.slice A n c] w (DrawnPlan w) := by
  go_enter Try.func44, Try.ntmps44
  go_wp2_with fail
  refine (open_any A n c hnc hc _ h).mono ?_
  rintro e w1 ⟨g, rfl, hr, hb⟩
  go_wp2_with fail
  refine (dPlan _ _ _ (by omega) _ hr).mono ?_
  rintro e w2 h2
  have h3 := h2.drawn hb hr.ge
  obtain ⟨s, A3, c3, L, A2, c2, P, rfl, hrest⟩ := h3
  clear h2
  go_wp2_with fail
  go_ret3
  exact ⟨s, A3, c3, L, A2, c2, P, rfl, hrest⟩
theorem drawPlanValid (A : Option Addr) (n c : Nat) (hnc : n ≤ c) (hc : c ≤ maxLen) (w : World) (h : Byt w w.heap.size A n) :
    Calls Try.prog 46 #[.slice A n c] w (DrawnPlan w) := by
  go_enter Try.func46, Try.ntmps46
  go_wp2_with fail
  refine (open_any A n c hnc hc _ h).mono ?_
  rintro e w1 ⟨g, rfl, hr, hb⟩
  go_wp2_with fail
  refine (dPlan _ _ _ (by omega) _ hr).mono ?_
  rintro e w2 h2
  have h3 := h2.drawn hb hr.ge
  obtain ⟨s, A3, c3, L, A2, c2, P, rfl, hrest⟩ := h3
  clear h2
  go_wp2_with fail
  go_ret3
  exact ⟨s, A3, c3, L, A2, c2, P, rfl, hrest⟩
def DrawnWork (w : World) (e : Ending) (w' : World) : Prop := ∃ (s : ByteArray) (A : Option Addr) (c : Nat) (L : List Jb), e = .returned (.tuple #[.string s, .slice A L.length c]) ∧ s.size ≤ 1000 ∧ L.length ≤ 4 ∧ (L.length ≤ c ∧ c ≤ maxLen) ∧ Jbs w' w'.heap.size A L ∧ Below w.heap.size w w'
theorem OwnJ.room {w : World} {B n c : Nat} {A : Option Addr} {L : List Jb} (h : OwnJ w B (.slice A n c) L) : L.length ≤ c ∧ c ≤ maxLen := by
  obtain ⟨A', c', e, h1, h2⟩ := h.form
  injection e with _ _ e3
  subst e3
  exact ⟨h1, h2⟩
theorem drawPlanBest (A : Option Addr) (n c : Nat) (hnc : n ≤ c) (hc : c ≤ maxLen) (w : World) (h : Byt w w.heap.size A n) :
    Calls Try.prog 31 #[.slice A n c] w (DrawnWork w) := by
  go_enter Try.func31, Try.ntmps31
  go_wp2_with fail
  refine (open_any A n c hnc hc _ h).mono ?_
  rintro e w1 ⟨g, rfl, hr, hb⟩
  go_wp2_with fail
  refine (dWork _ _ _ (by omega) _ hr).mono ?_
  rintro e w2 ⟨s, A3, c3, p3, L, rfl, hs, hL, hoL, _, _, hgr⟩
  have hrm := hoL.room
  have hJ := hoL.jbs
  have hB : Below w.heap.size w w2 := hb.grown hgr hb.size (fun k hk => by injection hk with hk; have := hr.ge; omega)
  go_wp2_with fail
  go_ret2
  exact ⟨s, A3, c3, L, rfl, hs, hL, hrm, hJ, hB⟩
theorem drawPlanRate (A : Option Addr) (n c : Nat) (hnc : n ≤ c) (hc : c ≤ maxLen) (w : World) (h : Byt w w.heap.size A n) :
    Calls Try.prog 23 #[.slice A n c] w (DrawnWork w) := by
  go_enter Try.func23, Try.ntmps23
  go_wp2_with fail
  refine (open_any A n c hnc hc _ h).mono ?_
  rintro e w1 ⟨g, rfl, hr, hb⟩
  go_wp2_with fail
  refine (dWork _ _ _ (by omega) _ hr).mono ?_
  rintro e w2 ⟨s, A3, c3, p3, L, rfl, hs, hL, hoL, _, _, hgr⟩
  have hrm := hoL.room
  have hJ := hoL.jbs
  have hB : Below w.heap.size w w2 := hb.grown hgr hb.size (fun k hk => by injection hk with hk; have := hr.ge; omega)
  go_wp2_with fail
  go_ret2
  exact ⟨s, A3, c3, L, rfl, hs, hL, hrm, hJ, hB⟩
def DrawnJobs (w : World) (e : Ending) (w' : World) : Prop := ∃ (A : Option Addr) (c : Nat) (L : List Jb), e = .returned (.slice A L.length c) ∧ L.length ≤ 6 ∧ (L.length ≤ c ∧ c ≤ maxLen) ∧ Jbs w' w'.heap.size A L ∧ Below w.heap.size w w'
theorem drawJobsDays (A : Option Addr) (n c : Nat) (hnc : n ≤ c) (hc : c ≤ maxLen) (w : World) (h : Byt w w.heap.size A n) :
    Calls Try.prog 33 #[.slice A n c] w (DrawnJobs w) := by
  go_enter Try.func33, Try.ntmps33
  go_wp2_with fail
  refine (open_any A n c hnc hc _ h).mono ?_
  rintro e w1 ⟨g, rfl, hr, hb⟩
  go_wp2_with fail
  refine (dJobs _ _ _ 6 (by omega) (by omega) _ hr).mono ?_
  rintro e w2 ⟨A3, c3, p3, L, rfl, hL, hoL, _, _, hgr⟩
  have hrm := hoL.room
  have hJ := hoL.jbs
  have hB : Below w.heap.size w w2 := hb.grown hgr hb.size (fun k hk => by injection hk with hk; have := hr.ge; omega)
  go_wp2_with fail
  go_ret
  exact ⟨A3, c3, L, rfl, hL, hrm, hJ, hB⟩
end Go.Proofs.Ytglncadfmomamaa
