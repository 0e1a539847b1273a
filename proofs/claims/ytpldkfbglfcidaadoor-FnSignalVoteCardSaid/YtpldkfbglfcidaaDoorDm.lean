/- The texts and signals that the statements draw. -/
import Derived.Test.YtpldkfbglfcidaaDoorByt
import Derived.Test.YtpldkfbglfcidaaDoorSo
import Derived.Deep.RegionHeld3
namespace Go.Proofs.YtpldkfbglfcidaaDoor
set_option linter.unusedVariables false
set_option linter.unusedSimpArgs false
open Go.RowKit
/-- A world in which the reader g may have gone on from place p, and only it has turned. -/
def Went (B g p most : Nat) (w w' : World) : Prop := ∃ q, p ≤ q ∧ q ≤ p + most ∧ Rd w' B g q ∧ w.grownBy w' (some g)
def StrPost (n : Nat) (B g p most : Nat) (w : World) (e : Ending) (w' : World) : Prop := ∃ s : ByteArray, s.size ≤ n ∧ e = .returned (.string s) ∧ Went B g p most w w'
theorem Rd.lt {w : World} {B g p : Nat} (h : Rd w B g p) : g < w.heap.size := by obtain ⟨A, n, c, hr, _⟩ := h; exact hr.lt
theorem Rd.ge {w : World} {B g p : Nat} (h : Rd w B g p) : B ≤ g := by obtain ⟨A, n, c, _, hB, _⟩ := h; exact hB
theorem Rd.alloc {w : World} {B g p : Nat} (h : Rd w B g p) (o : Obj) : Rd (w.alloc o) B g p := h.grown (row := none) (grown_alloc (grown_refl _ _) o) (by simp) (by simp)
theorem grown_of_below {w w' : World} (h : Below w.heap.size w w') (row : Option Nat) : w.grownBy w' row := ⟨h.os, h.tape, h.output, h.size, fun k hk _ => h.block k hk⟩
theorem Rd.below {w w' : World} {B g p : Nat} (h : Rd w B g p) (hb : Below w.heap.size w w') : Rd w' B g p := h.grown (row := none) (grown_of_below hb none) (by simp) (by simp)
theorem Went.below {B g : Nat} {w w1 w2 : World} (h : Below B w w1) (hB : B ≤ w1.heap.size) (hg : B ≤ g) (h2 : w1.grownBy w2 (some g)) : Below B w w2 :=
  h.grown h2 hB (fun k hk => by injection hk with hk; omega)
theorem of_one {ss : List ByteArray} {u : ByteArray} (m : Nat) (h : ∀ x ∈ ss, x.size ≤ m) (hu : u ∈ ss) : u.size ≤ m := h u hu
theorem ofR_small {l : List UInt8} {r : ByteArray} {ok : Bool} (h : ofR l r ok) : r.size ≤ 80 := by
  obtain ⟨rfl, -⟩ := h
  split
  · rename_i h1
    unfold ofOk at h1
    simp only [Bool.and_eq_true, decide_eq_true_eq] at h1
    have := h1.2.2
    show (ofTo l l.length).toArray.size ≤ 80
    simpa using this
  · decide
set_option maxRecDepth 100000 in
theorem l92Message_any (B g p : Nat) (most : Int) (hm0 : 0 ≤ most) (hm : most ≤ 100) (w : World) (hr : Rd w B g p) (hp : p ≤ 900000) :
    Calls Tryd.prog 60 #[.pointer (some ⟨g, 0, none⟩), .int .i64 most] w (StrPost 200 B g p 200 w) := by
  have HP := Lib.hid (fun p n a b w => pick_any B g p n a b w)
  have HO := Lib.hid (fun p h k ss a b c w => of_any B g p h k ss a b c w)
  go_enter Tryd.func60, Tryd.ntmps60
  go_wp2_with fail
  refine (HP.out _ _ (by omega) (by omega) _ hr (by omega)).mono ?_
  rintro e w1 ⟨v, rfl, ⟨hv0, hv1, _⟩, hr1, hg1⟩
  have hv2 := hv1 (by omega)
  clear hv1
  go_wp2_with fail
  go_loopw [5, 7] (fun s i wr => ∃ (k q : Nat) (t : ByteArray), (k : Int) ≤ v ∧ i = .int .i64 k ∧ s = .string t ∧ t.size ≤ k ∧ p + 1 ≤ q ∧ q ≤ p + 1 + k ∧ Rd wr B g q ∧ w.grownBy wr (some g)) (fun _ i _ => v.toNat - (intOf i).toNat)
  case atStart => exact ⟨0, p + 1, ⟨#[]⟩, by omega, rfl, rfl, Nat.le_refl _, by omega, by omega, hr1, hg1⟩
  case round =>
    obtain ⟨k, q, t, hk, rfl, rfl, ht, hq1, hq2, hr2, hg2⟩ := hrel
    by_cases hlt : (k : Int) < v
    · go_wp2_with fail
      refine (HO.out q _ 8 [⟨#[97]⟩, ⟨#[98]⟩, ⟨#[99]⟩, ⟨#[101]⟩, ⟨#[104]⟩, ⟨#[111]⟩, ⟨#[122]⟩, ⟨#[116]⟩] rfl (by omega) (by omega) _ (hr2.alloc _) (by omega) (Row.newS _ _ _ rfl rfl) (by have := hr2.lt; omega)).mono ?_
      rintro e w2 ⟨u, hu, rfl, hr3, hg3⟩
      have hus : u.size ≤ 1 := of_one 1 (by decide) hu
      have hg4 := grown_trans (grown_alloc hg2 _) hg3
      clear hg3 hu
      go_wp2_with fail
      go_roundw
      case rel => exact ⟨k + 1, q + 1, t ++ u, by omega, by go_num, rfl, by rw [ByteArray.size_append]; omega, by omega, by omega, hr3, hg4⟩
      case measure => simp [intOf]; omega
    · have hkv : (k : Int) = v := by omega
      have hk100 : k ≤ 100 := by omega
      go_wp2_with fail
      refine (HP.out _ _ (by omega) (by omega) _ hr2 (by omega)).mono ?_
      rintro e w2 ⟨v2, rfl, ⟨hv20, hv21, _⟩, hr3, hg3⟩
      have hg4 := grown_trans hg2 hg3
      clear hg3 hv21
      by_cases h0 : v2 = 0
      · subst h0
        go_wp2_with fail
        refine (HO.out (q + 1) _ 3 [⟨#[65]⟩, ⟨#[32]⟩, ⟨#[97, 98, 99, 100, 101, 102, 103, 104, 105, 106, 107, 108, 109]⟩] rfl (by omega) (by omega) _ (hr3.alloc _) (by omega) (Row.newS _ _ _ rfl rfl) (by have := hr3.lt; omega)).mono ?_
        rintro e w3 ⟨u, hu, rfl, hr5, hg5⟩
        have hus : u.size ≤ 13 := of_one 13 (by decide) hu
        have hg6 := grown_trans (grown_alloc hg4 _) hg5
        clear hg5 hu
        go_wp2_with fail
        go_ret
        exact ⟨t ++ u, by rw [ByteArray.size_append]; omega, rfl, q + 1 + 1, by omega, by omega, hr5, hg6⟩
      · have h0' : (v2 == 0) = false := by simpa using h0
        clear h0
        go_wp2_with fail
        go_ret
        exact ⟨t, by omega, rfl, q + 1, by omega, by omega, hr3, hg4⟩
set_option maxRecDepth 100000 in
theorem l92Signal_any (B g p : Nat) (w : World) (hr : Rd w B g p) (hp : p ≤ 800000) :
    Calls Tryd.prog 45 #[.pointer (some ⟨g, 0, none⟩)] w (StrPost 200 B g p 400 w) := by
  have HP := Lib.hid (fun p n a b w => pick_any B g p n a b w)
  have HO := Lib.hid (fun p h k ss a b c w => of_any B g p h k ss a b c w)
  have HM := Lib.hid (fun w hr => l92Message_any B g p 5 (by omega) (by omega) w hr (by omega))
  have HS := Lib.hid (fun s hs w => specSo s hs w)
  go_enter Tryd.func45, Tryd.ntmps45
  go_wp2_with fail
  refine (HM.out _ hr).mono ?_
  rintro e w1 ⟨t0, ht0, rfl, q0, hq01, hq02, hr1, hg1⟩
  go_wp2_with fail
  refine (HS.out t0 (by omega) _).mono ?_
  rintro e w2 ⟨u0, ok, rfl, hR, hb2⟩
  have hu0 := ofR_small hR
  have hg2 := grown_trans hg1 (grown_of_below hb2 (some g))
  have hr2 := hr1.below hb2
  clear hR hb2 hg1 hr1
  cases ok with
  | false =>
    go_wp2_with fail
    refine (HP.out _ _ (by omega) (by omega) _ hr2 (by omega)).mono ?_
    rintro e w4 ⟨n, rfl, ⟨hn0, hn1, _⟩, hr4, hg4⟩
    have hn2 := hn1 (by omega)
    replace hg4 := grown_trans hg2 hg4
    clear hn1
    go_wp2_with fail
    go_loopw [3, 6] (fun s i wr => ∃ (k q : Nat) (t : ByteArray), (k : Int) ≤ n ∧ i = .int .i64 k ∧ s = .string t ∧ t.size ≤ k ∧ q0 + 1 ≤ q ∧ q ≤ q0 + 1 + k ∧ Rd wr B g q ∧ w.grownBy wr (some g)) (fun _ i _ => n.toNat - (intOf i).toNat)
    case atStart => exact ⟨0, q0 + 1, ⟨#[]⟩, by omega, rfl, rfl, Nat.le_refl _, by omega, by omega, hr4, hg4⟩
    case round =>
      obtain ⟨k, q, t, hk, rfl, rfl, ht, hq1, hq2, hr5, hg5⟩ := hrel
      by_cases hlt : (k : Int) < n
      · go_wp2_with fail
        refine (HO.out q _ 4 [⟨#[45]⟩, ⟨#[43]⟩, ⟨#[48]⟩, ⟨#[43]⟩] rfl (by omega) (by omega) _ (hr5.alloc _) (by omega) (Row.newS _ _ _ rfl rfl) (by have := hr5.lt; omega)).mono ?_
        rintro e w6 ⟨u, hu, rfl, hr6, hg6⟩
        have hus : u.size ≤ 1 := of_one 1 (by decide) hu
        replace hg6 := grown_trans (grown_alloc hg5 _) hg6
        clear hu
        go_wp2_with fail
        go_roundw
        case rel => exact ⟨k + 1, q + 1, t ++ u, by omega, by go_num, rfl, by rw [ByteArray.size_append]; omega, by omega, by omega, hr6, hg6⟩
        case measure => simp [intOf]; omega
      · have hkv : (k : Int) = n := by omega
        have hk9 : k ≤ 9 := by omega
        go_wp2_with fail
        refine (HP.out _ _ (by omega) (by omega) _ hr5 (by omega)).mono ?_
        rintro e w6 ⟨v2, rfl, ⟨hv20, hv21, _⟩, hr6, hg6⟩
        replace hg6 := grown_trans hg5 hg6
        clear hv21
        by_cases h0 : v2 = 0
        · subst h0
          go_wp2_with fail
          refine (HO.out (q + 1) _ 2 [⟨#[120]⟩, ⟨#[49]⟩] rfl (by omega) (by omega) _ (hr6.alloc _) (by omega) (Row.newS _ _ _ rfl rfl) (by have := hr6.lt; omega)).mono ?_
          rintro e w7 ⟨u, hu, rfl, hr7, hg7⟩
          have hus : u.size ≤ 1 := of_one 1 (by decide) hu
          replace hg7 := grown_trans (grown_alloc hg6 _) hg7
          clear hu
          go_wp2_with fail
          go_ret
          exact ⟨t ++ u, by rw [ByteArray.size_append]; omega, rfl, q + 1 + 1, by omega, by omega, hr7, hg7⟩
        · have h0' : (v2 == 0) = false := by simpa using h0
          clear h0
          go_wp2_with fail
          go_ret
          exact ⟨t, by omega, rfl, q + 1, by omega, by omega, hr6, hg6⟩
  | true =>
    go_wp2_with fail
    refine (HP.out _ _ (by omega) (by omega) _ hr2 (by omega)).mono ?_
    rintro e w3 ⟨v, rfl, ⟨hv0, hv1, _⟩, hr3, hg3⟩
    replace hg3 := grown_trans hg2 hg3
    clear hv1
    by_cases hv : 0 < v
    · go_wp2_with fail
      go_ret
      exact ⟨u0, by omega, rfl, q0 + 1, by omega, by omega, hr3, hg3⟩
    · obtain rfl : v = 0 := by omega
      go_wp2_with fail
      refine (HP.out _ _ (by omega) (by omega) _ hr3 (by omega)).mono ?_
      rintro e w4 ⟨n, rfl, ⟨hn0, hn1, _⟩, hr4, hg4⟩
      have hn2 := hn1 (by omega)
      replace hg4 := grown_trans hg3 hg4
      clear hn1
      go_wp2_with fail
      go_loopw [3, 6] (fun s i wr => ∃ (k q : Nat) (t : ByteArray), (k : Int) ≤ n ∧ i = .int .i64 k ∧ s = .string t ∧ t.size ≤ k ∧ (q0 + 1) + 1 ≤ q ∧ q ≤ (q0 + 1) + 1 + k ∧ Rd wr B g q ∧ w.grownBy wr (some g)) (fun _ i _ => n.toNat - (intOf i).toNat)
      case atStart => exact ⟨0, (q0 + 1) + 1, ⟨#[]⟩, by omega, rfl, rfl, Nat.le_refl _, by omega, by omega, hr4, hg4⟩
      case round =>
        obtain ⟨k, q, t, hk, rfl, rfl, ht, hq1, hq2, hr5, hg5⟩ := hrel
        by_cases hlt : (k : Int) < n
        · go_wp2_with fail
          refine (HO.out q _ 4 [⟨#[45]⟩, ⟨#[43]⟩, ⟨#[48]⟩, ⟨#[43]⟩] rfl (by omega) (by omega) _ (hr5.alloc _) (by omega) (Row.newS _ _ _ rfl rfl) (by have := hr5.lt; omega)).mono ?_
          rintro e w6 ⟨u, hu, rfl, hr6, hg6⟩
          have hus : u.size ≤ 1 := of_one 1 (by decide) hu
          replace hg6 := grown_trans (grown_alloc hg5 _) hg6
          clear hu
          go_wp2_with fail
          go_roundw
          case rel => exact ⟨k + 1, q + 1, t ++ u, by omega, by go_num, rfl, by rw [ByteArray.size_append]; omega, by omega, by omega, hr6, hg6⟩
          case measure => simp [intOf]; omega
        · have hkv : (k : Int) = n := by omega
          have hk9 : k ≤ 9 := by omega
          go_wp2_with fail
          refine (HP.out _ _ (by omega) (by omega) _ hr5 (by omega)).mono ?_
          rintro e w6 ⟨v2, rfl, ⟨hv20, hv21, _⟩, hr6, hg6⟩
          replace hg6 := grown_trans hg5 hg6
          clear hv21
          by_cases h0 : v2 = 0
          · subst h0
            go_wp2_with fail
            refine (HO.out (q + 1) _ 2 [⟨#[120]⟩, ⟨#[49]⟩] rfl (by omega) (by omega) _ (hr6.alloc _) (by omega) (Row.newS _ _ _ rfl rfl) (by have := hr6.lt; omega)).mono ?_
            rintro e w7 ⟨u, hu, rfl, hr7, hg7⟩
            have hus : u.size ≤ 1 := of_one 1 (by decide) hu
            replace hg7 := grown_trans (grown_alloc hg6 _) hg7
            clear hu
            go_wp2_with fail
            go_ret
            exact ⟨t ++ u, by rw [ByteArray.size_append]; omega, rfl, q + 1 + 1, by omega, by omega, hr7, hg7⟩
          · have h0' : (v2 == 0) = false := by simpa using h0
            clear h0
            go_wp2_with fail
            go_ret
            exact ⟨t, by omega, rfl, q + 1, by omega, by omega, hr6, hg6⟩
set_option maxRecDepth 100000 in
set_option maxHeartbeats 2000000 in
theorem l92Wrong_any (B g p : Nat) (s : ByteArray) (hs : s.size ≤ 200) (w : World) (hr : Rd w B g p) (hp : p ≤ 900000) :
    Calls Tryd.prog 46 #[.pointer (some ⟨g, 0, none⟩), .string s] w (StrPost 200 B g p 10 w) := by
  have HP := Lib.hid (fun p n a b w => pick_any B g p n a b w)
  have HO := Lib.hid (fun p h k ss a b c w => of_any B g p h k ss a b c w)
  by_cases h0 : s.size = 0
  · have hl : s.data.toList = [] := List.eq_nil_of_length_eq_zero (by simpa using h0)
    have he2 : s.toList = [] := by rw [Lib.toList_data, hl]
    have he : s.toList.isEmpty = true := by rw [he2]; rfl
    clear hl
    go_enter Tryd.func46, Tryd.ntmps46
    go_wp2_with fail
    go_ret
    exact ⟨s, hs, rfl, p, by omega, by omega, hr, grown_refl _ _⟩
  · have hne : s.data.toList ≠ [] := fun e => h0 (by have := congrArg List.length e; simpa using this)
    have he : s.toList.isEmpty = false := by
      rw [Lib.toList_data]
      cases h : s.data.toList with
      | nil => exact absurd h hne
      | cons a r => rfl
    clear hne
    go_enter Tryd.func46, Tryd.ntmps46
    go_wp2_with fail
    refine (HP.out _ _ (by omega) (by omega) _ hr (by omega)).mono ?_
    rintro e w1 ⟨v, rfl, ⟨hv0, hv1, _⟩, hr1, hg1⟩
    clear hv1
    by_cases hv : v = 0
    · subst hv
      go_wp2_with fail
      go_ret
      exact ⟨s, hs, rfl, p + 1, by omega, by omega, hr1, hg1⟩
    · have hv' : (v == 0) = false := bF hv
      clear hv
      go_wp2_with fail
      refine (HP.out _ _ (by omega) (by omega) _ hr1 (by omega)).mono ?_
      rintro e w2 ⟨kk, rfl, ⟨hk0, hk1, _⟩, hr2, hg2⟩
      have hk2 := hk1 (by omega)
      replace hg2 := grown_trans hg1 hg2
      obtain ⟨k, rfl⟩ := Int.eq_ofNat_of_zero_le hk0
      have hks : k + 1 ≤ s.size := by omega
      clear hk1 hg1 hr1
      have hlt2 := hr2.lt
      have hO := Lib.hid (fun w' r1 r2 => HO.out (p + 1 + 1) w2.heap.size 3 [⟨#[45]⟩, ⟨#[43]⟩, ⟨#[48]⟩] rfl (by omega) (by omega) w' r1 (by omega) r2 (by omega))
      have b1 : (0 : Int) ≤ (k : Int) := by omega
      have b2 : (k : Int) ≤ (s.size : Int) := by omega
      have b3 : IntKind.i64.wrap ((k : Int) + 1) = (k : Int) + 1 := IntWalk.i64_in _ (by omega)
      have b4 : (0 : Int) ≤ (k : Int) + 1 := by omega
      have b5 : (k : Int) + 1 ≤ (s.size : Int) := by omega
      go_wp2_with fail
      go_region_with (first | (go_at_call 61; refine (hO.out _ (Rd.alloc (w := w2.drew) hr2 _) (Row.newS _ _ _ rfl rfl)).mono ?_; rintro e w3 ⟨u, hu, rfl, hr3, hg3⟩; have hus : u.size ≤ 1 := of_one 1 (by decide) hu; clear hu))
      go_simp
      go_wp2_with fail
      go_ret
      exact ⟨s.extract 0 k ++ u ++ s.extract (k + 1) s.size, by rw [ByteArray.size_append, ByteArray.size_append, ByteArray.size_extract, ByteArray.size_extract]; omega, rfl, p + 1 + 1 + 1, by omega, by omega, hr3, grown_trans (grown_alloc (show w.grownBy w2.drew (some g) from ⟨hg2.os, hg2.tape, hg2.output, hg2.size, hg2.block⟩) _) hg3⟩
def DrawnVote (w : World) (e : Ending) (w' : World) : Prop := ∃ a b c : ByteArray, a.size ≤ 200 ∧ b.size ≤ 200 ∧ c.size ≤ 200 ∧ e = .returned (.tuple #[.string a, .string b, .string c]) ∧ Below w.heap.size w w'
set_option maxRecDepth 100000 in
theorem drawVote (A : Option Addr) (n c : Nat) (hnc : n ≤ c) (hc : c ≤ maxLen) (w : World) (h : Byt w w.heap.size A n) :
    Calls Tryd.prog 29 #[.slice A n c] w (DrawnVote w) := by
  have HW := Lib.hid (fun B g p s hs w hr hp => l92Wrong_any B g p s hs w hr hp)
  go_enter Tryd.func29, Tryd.ntmps29
  go_wp2_with fail
  refine (open_any A n c hnc hc _ h).mono ?_
  rintro e w1 ⟨g, rfl, hr, hb⟩
  have hge := hr.ge
  go_wp2_with fail
  refine (l92Signal_any _ _ _ _ hr (by omega)).mono ?_
  rintro e w2 ⟨s, hs, rfl, q, hq1, hq2, hr2, hg2⟩
  have hb2 := Went.below hb hb.size hge hg2
  go_wp2_with fail
  refine (pick_any _ _ _ _ (by omega) (by omega) _ hr2 (by omega)).mono ?_
  rintro e w3 ⟨v, rfl, ⟨hv0, hv1, _⟩, hr3, hg3⟩
  have hb3 := Went.below hb2 hb2.size hge hg3
  clear hv1
  by_cases h0 : v = 0
  · subst h0
    go_wp2_with fail
    refine (l92Signal_any _ _ _ _ hr3 (by omega)).mono ?_
    rintro e w4 ⟨t, ht, rfl, q4, hq41, hq42, hr4, hg4⟩
    have hb4 := Went.below hb3 hb3.size hge hg4
    go_wp2_with fail
    go_ret3
    exact ⟨s, s, t, hs, hs, ht, rfl, hb4⟩
  · have h0' : (v == 0) = false := bF h0
    clear h0
    go_wp2_with fail
    refine (HW.out _ _ _ s hs _ hr3 (by omega)).mono ?_
    rintro e w4 ⟨t1, ht1, rfl, q4, hq41, hq42, hr4, hg4⟩
    have hb4 := Went.below hb3 hb3.size hge hg4
    go_wp2_with fail
    refine (HW.out _ _ _ s hs _ hr4 (by omega)).mono ?_
    rintro e w5 ⟨t2, ht2, rfl, q5, hq51, hq52, hr5, hg5⟩
    have hb5 := Went.below hb4 hb4.size hge hg5
    go_wp2_with fail
    refine (HW.out _ _ _ s hs _ hr5 (by omega)).mono ?_
    rintro e w6 ⟨t3, ht3, rfl, q6, hq61, hq62, hr6, hg6⟩
    have hb6 := Went.below hb5 hb5.size hge hg6
    go_wp2_with fail
    go_ret3
    exact ⟨t1, t2, t3, ht1, ht2, ht3, rfl, hb6⟩
end Go.Proofs.YtpldkfbglfcidaaDoor
