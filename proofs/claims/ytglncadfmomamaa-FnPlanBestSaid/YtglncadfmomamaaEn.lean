/- The iterator over a plan's ends (forecast.ends), walked: its contract. -/
import Derived.RangeFuncNested
import Derived.RangeFuncBound
import Derived.RangeFuncCalls
import Derived.RangeFuncLeaves
import Derived.RangeFuncFrom
import Derived.Shelf.Abstract
import Derived.Shelf.RegionOpen
import Derived.OwnWalkIn
import Derived.TacticsInMore
import Derived.LoopNIn
import Derived.LoopIn
import Derived.Test.YtglncadfmomamaaPv4
namespace Go.Proofs.Ytglncadfmomamaa
set_option linter.unusedVariables false
set_option linter.unusedSimpArgs false
open Go.RowKit Go.Shelf
attribute [local go_sem] Oper.semAt_some
/-- What a round keeps: the blocks of a set. -/
def KeepS (S : Nat → Prop) (W W' : World) : Prop := W.heap.size ≤ W'.heap.size ∧ ∀ b, S b → W'.heap[b]? = W.heap[b]?
section
variable {S : Nat → Prop} {A B C : World}
theorem KeepS.refl (S : Nat → Prop) (W : World) : KeepS S W W := ⟨Nat.le_refl _, fun _ _ => rfl⟩
theorem KeepS.trans (h : KeepS S A B) (k : KeepS S B C) : KeepS S A C := ⟨Nat.le_trans h.1 k.1, fun b hb => (k.2 b hb).trans (h.2 b hb)⟩
theorem KeepS.of_below {n : Nat} (h : Below n A B) (hS : ∀ b, S b → b < n) : KeepS S A B := ⟨h.size, fun b hb => h.block b (hS b hb)⟩
theorem KeepS.of_grown {row : Option Nat} (h : A.grownBy B row) (hS : ∀ b, S b → b < A.heap.size ∧ some b ≠ row) : KeepS S A B := ⟨h.size, fun b hb => h.block b (hS b hb).1 (hS b hb).2⟩
theorem KeepS.cell (h : KeepS S A B) {p : Addr} (hp : S p.block) : B.cell? p = A.cell? p := by unfold World.cell?; rw [h.2 _ hp]
theorem KeepS.set (h : KeepS S A B) {p : Addr} (hp : ¬ S p.block) (u : Value) : KeepS S A (B.setCell p u) :=
  ⟨by simpa [World.setCell] using h.1, fun b hb => (Below.heap_setCell _ _ _ _ (fun e => hp (e ▸ hb))).trans (h.2 b hb)⟩
theorem KeepS.drew (h : KeepS S A B) : KeepS S A B.drew := h
theorem keepS_b {w : World} (hS : ∀ b, S b → b < w.heap.size) (W : World) (l : Nat) (o o' : Obj) (hl : w.heap.size ≤ l) (h : W.heap[l]? = some o) (_ : o.isCells = false) (_ : o.isWalk = false) : KeepS S W (W.putObj l o') :=
  ⟨by simp, fun b hb => World.putObj_heap_other (by have := hS b hb; omega)⟩
end
/-- A slice of numbers, of repairs, in the blocks of a set. -/
def IvS (S : Nat → Prop) (w : World) (A : Option Addr) (xs : List Int) : Prop :=
  0 < xs.length → ∃ b off, A = some ⟨b, off, none⟩ ∧ S b ∧ ∀ i x, xs[i]? = some x → w.cell? ⟨b, off + i, none⟩ = some (.int .i64 x)
def JbS (S : Nat → Prop) (w : World) (A : Option Addr) (L : List Jb) : Prop :=
  0 < L.length → ∃ b off, A = some ⟨b, off, none⟩ ∧ S b ∧ ∀ i l, L[i]? = some l →
    w.cell? ⟨b, off + i * 2, none⟩ = some (.int .i64 l.d) ∧ w.cell? ⟨b, off + i * 2 + 1, none⟩ = some (.int .i64 l.w)
theorem IvS.keep {S : Nat → Prop} {W W' : World} {A : Option Addr} {xs : List Int} (h : IvS S W A xs) (k : KeepS S W W') : IvS S W' A xs := fun h0 => by
  obtain ⟨b, off, rfl, hb, hc⟩ := h h0
  exact ⟨b, off, rfl, hb, fun i x hx => (k.cell (p := ⟨b, _, none⟩) hb).trans (hc i x hx)⟩
theorem JbS.keep {S : Nat → Prop} {W W' : World} {A : Option Addr} {xs : List Jb} (h : JbS S W A xs) (k : KeepS S W W') : JbS S W' A xs := fun h0 => by
  obtain ⟨b, off, rfl, hb, hc⟩ := h h0
  exact ⟨b, off, rfl, hb, fun i x hx => ⟨(k.cell (p := ⟨b, _, none⟩) hb).trans (hc i x hx).1, (k.cell (p := ⟨b, _, none⟩) hb).trans (hc i x hx).2⟩⟩
theorem Iv.inS {S : Nat → Prop} {W : World} {lo hi : Nat} {A : Option Addr} {xs : List Int} (h : Iv W lo hi A xs) (hS : ∀ b, lo ≤ b → b < hi → S b) : IvS S W A xs := fun h0 => by
  obtain ⟨b, off, rfl, h1, h2, hc⟩ := h h0
  exact ⟨b, off, rfl, hS b h1 h2, hc⟩
theorem Jbs.inS {S : Nat → Prop} {W : World} {hi : Nat} {A : Option Addr} {xs : List Jb} (h : Jbs W hi A xs) (hS : ∀ b, b < hi → S b) : JbS S W A xs := fun h0 => by
  obtain ⟨b, off, rfl, h2, hc⟩ := h h0
  exact ⟨b, off, rfl, hS b h2, hc⟩
/-- The work of the first k repairs of a plan. -/
def jAt (J : List Jb) (i : Int) : Jb := J.getD i.toNat ⟨0, 0⟩
def workTo (J : List Jb) (P : List Int) : Nat → Int
  | 0 => 0
  | k + 1 => workTo J P k + (jAt J (P.getD k 0)).d
/-- Where the iterator's variables lie, and what they read as. -/
def EndsAt (S : Nat → Prop) (W : World) (B1 B2 B3 : Nat) (AP : Option Addr) (cP : Nat) (P : List Int) (AJ : Option Addr) (c : Nat) (J : List Jb) (ls : List UInt8) : Prop :=
  (S B1 ∧ S B2 ∧ S B3) ∧ W.cell? ⟨B1, 0, none⟩ = some (.slice AP P.length cP) ∧ W.cell? ⟨B2, 0, none⟩ = some (.slice AJ J.length c) ∧
  W.cell? ⟨B3, 0, none⟩ = some (.int .u32 (maskL ls)) ∧ W.cell? ⟨B3, 1, none⟩ = some (.int .i64 ls.length) ∧ IvS S W AP P ∧ JbS S W AJ J
theorem EndsAt.keep {S : Nat → Prop} {W W' : World} {B1 B2 B3 : Nat} {AP : Option Addr} {cP : Nat} {P : List Int} {AJ : Option Addr} {c : Nat} {J : List Jb} {ls : List UInt8}
    (h : EndsAt S W B1 B2 B3 AP cP P AJ c J ls) (k : KeepS S W W') : EndsAt S W' B1 B2 B3 AP cP P AJ c J ls := by
  obtain ⟨⟨s1, s2, s3⟩, h1, h2, h3, h4, h5, h6⟩ := h
  exact ⟨⟨s1, s2, s3⟩, (k.cell (p := ⟨B1, 0, none⟩) s1).trans h1, (k.cell (p := ⟨B2, 0, none⟩) s2).trans h2, (k.cell (p := ⟨B3, 0, none⟩) s3).trans h3, (k.cell (p := ⟨B3, 1, none⟩) s3).trans h4, h5.keep k, h6.keep k⟩
/-- What one round is handed. -/
def endsOf (ls : List UInt8) (J : List Jb) (P : List Int) (k : Nat) : Array Value := #[.int .i64 (P.getD k 0), .int .i64 (fcEnd ls (workTo J P (k + 1)))]
/-- A plan of repairs: what the walk wants of it. -/
def PlanFit (J : List Jb) (P : List Int) : Prop := P.length ≤ 6 ∧ (∀ k, k < P.length → 0 ≤ P.getD k 0 ∧ P.getD k 0 < J.length) ∧ ∀ k, k ≤ P.length → 0 ≤ workTo J P k ∧ workTo J P k ≤ 54
set_option maxRecDepth 100000 in
set_option maxHeartbeats 2000000 in
theorem ends1 (B1 B2 B3 cP c : Nat) (AP AJ : Option Addr) (J : List Jb) (P : List Int) (ls : List UInt8) (hls : ls.length ≤ 30) (hfit : PlanFit J P) (S : Nat → Prop) (w : World) (hS : ∀ b, S b → b < w.heap.size)
    (hE : EndsAt S w B1 B2 B3 AP cP P AJ c J ls) :
    SeqStopsK Fence.wide 5 Try.prog 90 #[.pointer (some ⟨B1, 0, none⟩), .pointer (some ⟨B2, 0, none⟩), .pointer (some ⟨B3, 0, none⟩)] (endsOf ls J P) (KeepS S) (fun xs => xs = List.range P.length) (fun _ => True) P.length w := by
  intro l Jn Jx W hW hJn hJx hY h0
  replace hE := hE.keep (KeepS.of_below hW hS)
  replace hS : ∀ b, S b → b < W.heap.size := fun b hb => Nat.lt_of_lt_of_le (hS b hb) hW.size
  obtain ⟨hn6, hPJ, hw⟩ := hfit
  have HE := Lib.hid (end_fc ls (by omega))
  have HPJ := Lib.hid hPJ
  have Hw := Lib.hid hw
  obtain ⟨np, hnp⟩ : ∃ np, np = P.length := ⟨_, rfl⟩
  obtain ⟨n, hn⟩ : ∃ n, n = J.length := ⟨_, rfl⟩
  have HnJ := Lib.hid hn
  have HnP := Lib.hid hnp
  obtain ⟨m, hm⟩ : ∃ m, m = maskL ls := ⟨_, rfl⟩
  obtain ⟨z, hz⟩ : ∃ z, z = ls.length := ⟨_, rfl⟩
  have Hm := Lib.hid hm
  have Hz := Lib.hid hz
  rw [← hm, ← hz] at HE
  rw [← hnp] at hn6 hY
  rw [← hnp, ← hn] at HPJ
  rw [← hnp] at Hw
  rw [← hz] at hls
  have hEH := Lib.hid hE
  obtain ⟨⟨s1, s2, s3⟩, h1, h2, h3, h4, h5, h6⟩ := hE
  rw [← hnp] at h1 ⊢
  rw [← hn] at h2
  rw [← hm] at h3
  rw [← hz] at h4
  clear hPJ hw hn hnp hm hz h5 h6
  refine callsIn_of_wp Try.func90 rfl trivial ?_ rfl
  simp only [Try.ntmps90, List.size_toArray, List.length_cons, List.length_nil, Nat.reduceAdd, Nat.reduceSub, Array.replicate_succ, Array.replicate_zero, List.push_toArray, List.append_toArray, List.nil_append, List.cons_append]
  gi_wp2
  gi_loopw [5, 10] (fun a i wr => ∃ (k : Nat) (x : Int), k ≤ np ∧ i = .int .i64 k ∧ a = .int .i64 x ∧ Hid (x = workTo J P k) ∧ Jn (List.range k) wr ∧ KeepS S W wr)
    (fun _ i _ => np - (intOf i).toNat)
  case atStart => exact ⟨0, 0, Nat.zero_le _, rfl, rfl, rfl, h0, KeepS.refl _ _⟩
  case round =>
    obtain ⟨k, x, hk, rfl, rfl, hx, hJs, hnx⟩ := hrel
    by_cases hlt : k < np
    · obtain ⟨p, hp⟩ : ∃ p, p = P.getD k 0 := ⟨_, rfl⟩
      obtain ⟨-, g1, g2, g3, g4, g5, g6⟩ := hEH.out.keep hnx
      obtain ⟨bp, op, rfl, hbp, hcp⟩ := g5 (by rw [← HnP.out]; omega)
      have hcx := hcp k p (by rw [hp, List.getD, List.getElem?_eq_getElem (by rw [← HnP.out]; exact hlt)]; rfl)
      obtain ⟨hp0, hpn⟩ := HPJ.out k hlt
      have hwk := Hw.out k (by omega)
      have hwk1 := Hw.out (k + 1) (by omega)
      rw [workTo] at hwk1
      rw [← hp] at hp0 hpn hwk1
      obtain ⟨q, rfl⟩ := Int.eq_ofNat_of_zero_le hp0
      have hqn : q < n := by omega
      obtain ⟨bj, oj, rfl, hbj, hcj⟩ := g6 (by rw [← HnJ.out]; omega)
      obtain ⟨y, hy⟩ : ∃ y, J[q]? = some y := ⟨J[q]'(by rw [← HnJ.out]; exact hqn), List.getElem?_eq_getElem _⟩
      have hjat : jAt J (q : Int) = y := by unfold jAt; rw [Int.toNat_natCast, List.getD, hy]; rfl
      have hd1 := (hcj q y hy).1
      rw [hjat] at hwk1
      have hnext : Hid (x + y.d = workTo J P (k + 1)) := by show _ = _; rw [workTo, hx.out, ← hp, hjat]
      rw [← hx.out] at hwk hwk1
      rw [← HnP.out] at g1
      rw [← HnJ.out] at g2
      rw [← Hm.out] at g3
      rw [← Hz.out] at g4
      have hHE := Lib.hid (HE.out (x + y.d) wr)
      have hfk : Hid (endsOf ls J P k = #[.int .i64 (q : Int), .int .i64 (fcEnd ls (x + y.d))]) := by show _ = _; rw [endsOf, ← hp, ← hnext.out]
      have HYk := Lib.hid (fun wA (h : Jn (List.range k) wA) => hY (List.range k) k wA h (by rw [List.length_range]; exact hlt))
      rw [hfk.out] at HYk
      have hJA : Hid (∀ wA, Below wr.heap.size wr wA → Jn (List.range k) wA ∧ KeepS S W wA) := fun wA hb => ⟨hJn _ _ _ none hJs (grownBy_of_below hb (Nat.le_refl _)) (fun _ h => by cases h), hnx.trans (KeepS.of_below hb (fun b hb' => Nat.lt_of_lt_of_le (hS b hb') hnx.1))⟩
      obtain ⟨e', he'⟩ : ∃ e', e' = fcEnd ls (x + y.d) := ⟨_, rfl⟩
      rw [← he'] at hHE HYk
      clear hcj hy hjat hp hJs hnx he' hcp h1 h2 h3 h4
      gi_wp2
      refine ⟨trivial, (callsIn_wide.2 hHE.out).mono ?_⟩
      rintro e wA ⟨rfl, hbA⟩
      obtain ⟨hJA1, hJA2⟩ := hJA.out wA hbA
      obtain ⟨fn, tmps, assign, body, hy, hR⟩ := HYk.out wA hJA1
      try dsimp only at hy
      gi_wp2
      refine hR.mono ?_
      rintro e W3 (⟨rfl, hJ3, hk3⟩ | ⟨rfl, hJx3⟩)
      · gi_wp2
        go_roundw
        case rel => exact ⟨k + 1, x + y.d, by omega, by simp, rfl, hnext.out, by rw [List.range_succ]; exact hJ3, hJA2.trans hk3⟩
        case measure => simp [intOf]; omega
      · gi_wp2
        refine bodyPost_ret (results_none rfl _ _ _) rfl ?_
        exact ⟨⟨_, rfl⟩, .inr ⟨_, trivial, hJx3⟩⟩
    · obtain rfl : k = np := by omega
      gi_wp2
      go_end0
      exact ⟨⟨_, rfl⟩, .inl ⟨_, rfl, hJs⟩⟩
end Go.Proofs.Ytglncadfmomamaa
