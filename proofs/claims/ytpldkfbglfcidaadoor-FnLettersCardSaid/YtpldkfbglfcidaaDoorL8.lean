/- SignalRead of the reference, walked. -/
import Derived.Test.YtpldkfbglfcidaaDoorRp
import Derived.Test.YtpldkfbglfcidaaDoorOws
import Derived.Test.YtpldkfbglfcidaaDoorOw8
import Derived.Test.YtpldkfbglfcidaaDoorApp
import Derived.Test.YtpldkfbglfcidaaDoorCode
namespace Go.Proofs.YtpldkfbglfcidaaDoor
set_option linter.unusedVariables false
set_option linter.unusedSimpArgs false
open Go.RowKit
theorem OwnU.lit1 (w : World) (B : Nat) (c : UInt8) (x : Int) (hx : x = c.toNat) (hB : B ≤ w.heap.size) : OwnU (w.alloc (.cells #[.int .u8 x] 5)) B w.heap.size 1 1 [c] := by
  subst hx
  exact ⟨⟨by simp [u8s], .inr ⟨w.heap.size, 1, #[.int .u8 (c.toNat : Int)], rfl, hB, heap_alloc_new w _, by simp, by unfold maxLen; omega, by simp, by simp [u8s]⟩⟩, rfl⟩
/-- The letter of a code, or nothing. -/
def letS (l : List UInt8) : ByteArray := if letV l = 0 then ⟨#[]⟩ else ⟨#[UInt8.ofNat (letV l)]⟩
theorem codeS_lit (c : UInt8) (h1 : 97 ≤ c.toNat) (h2 : c.toNat ≤ 122) : codeS ⟨#[c]⟩ = codeB c.toNat := codeS_one ⟨#[c]⟩ rfl h1 h2
def TextP (r : ByteArray) (w : World) (e : Ending) (w' : World) : Prop := e = .returned (.string r) ∧ Below w.heap.size w w'
set_option maxRecDepth 100000 in
theorem specLet (s : ByteArray) (w : World) : Calls Tryd.prog 50 #[.string s] w (TextP (letS s.data.toList) w) := by
  have HC := Lib.hid (fun t w => specCode t w)
  have HN : Hid ((∀ j, j < 26 → codeB (97 + j) ≠ s.data.toList) → letS s.data.toList = ⟨#[]⟩) := fun h => by
    unfold letS
    by_cases h0 : letV s.data.toList = 0
    · rw [if_pos h0]
    · obtain ⟨j, h1, -, h3⟩ := letV_inv h0
      exact absurd h3 (h j h1)
  have HY : Hid (∀ j, j < 26 → codeB (97 + j) = s.data.toList → letS s.data.toList = ⟨#[UInt8.ofNat (97 + j)]⟩) := fun j hj h => by
    have := letV_code ⟨j, hj⟩
    dsimp only at this
    rw [h] at this
    unfold letS
    rw [this, if_neg (by omega)]
  obtain ⟨R, hR⟩ : ∃ R, R = letS s.data.toList := ⟨_, rfl⟩
  rw [← hR] at HN HY ⊢
  clear hR
  go_enter Tryd.func50, Tryd.ntmps50
  go_wp2_with fail
  go_loopw [3] (fun v wr => ∃ k : Nat, k ≤ 26 ∧ v = .int .i64 k ∧ Hid (∀ j, j < k → codeB (97 + j) ≠ s.data.toList) ∧ Below w.heap.size w wr) (fun v _ => 26 - (intOf v).toNat)
  case atStart => exact ⟨0, by omega, rfl, fun j hj => absurd hj (by omega), Below.refl _ _⟩
  case round =>
    obtain ⟨k, hk, rfl, hall, hbel⟩ := hrel
    have hsz := hbel.size
    by_cases hlt : k < 26
    · obtain ⟨c, hc⟩ : ∃ c, c = UInt8.ofNat (97 + k) := ⟨_, rfl⟩
      have hcn : c.toNat = 97 + k := by rw [hc]; simp; omega
      have hcv := (OwnU.lit1 wr w.heap.size c (97 + (k : Int)) (by omega) hsz).text
      have hcode := HC.out ⟨#[c]⟩
      rw [codeS_lit c (by omega) (by omega), hcn] at hcode
      replace hcode := Lib.hid hcode
      replace hc := Lib.hid hc
      clear hcn
      have hbn := hbel.alloc hsz (Obj.cells #[.int .u8 (97 + (k : Int))] 5)
      by_cases he : codeB (97 + k) = s.data.toList
      · have hR := Lib.hid (HY.out k hlt he)
        have ht : (codeB (97 + k) == s.toList) = true := by
          rw [beq_iff_eq, Lib.toList_data]; exact he
        clear he HY HN
        go_wp2_with fail
        refine (hcode.out _).mono ?_
        rintro e w1 ⟨rfl, rfl⟩
        go_wp2_with fail
        go_ret
        exact ⟨by rw [hR.out, ← hc.out]; rfl, hbn⟩
      · have ht : (codeB (97 + k) == s.toList) = false := by
          rw [beq_eq_false_iff_ne, Lib.toList_data]; exact he
        have hall2 : Hid (∀ j, j < k + 1 → codeB (97 + j) ≠ s.data.toList) := fun j hj => by
          by_cases h : j < k
          · exact hall.out j h
          · obtain rfl : j = k := by omega
            exact he
        clear he HY HN
        go_wp2_with fail
        refine (hcode.out _).mono ?_
        rintro e w1 ⟨rfl, rfl⟩
        go_wp2_with fail
        go_roundw
        case rel => exact ⟨k + 1, by omega, by go_num, hall2, hbn⟩
        case measure => simp [intOf]; omega
    · obtain rfl : k = 26 := by omega
      have hR := Lib.hid (HN.out hall.out)
      go_wp2_with fail
      go_ret
      exact ⟨by rw [hR.out]; rfl, hbel⟩
def CutPost (l : List UInt8) (w : World) (e : Ending) (w' : World) : Prop := ∃ (g c : Nat) (ps : List ByteArray), e = .returned (.slice (some ⟨g, 0, none⟩) ps.length c) ∧ OwnT w' w.heap.size g ps.length c ps ∧ ps.map (fun p => p.data.toList) = pieces l ∧ Below w.heap.size w w'
theorem piece_list (s : ByteArray) (i j : Nat) : (s.extract i j).data.toList = (s.data.toList.drop i).take (j - i) := by
  rw [ByteArray.data_extract]; simp [List.extract_eq_take_drop]
set_option maxRecDepth 100000 in
theorem specCt (s : ByteArray) (hs : s.size ≤ 1000) (w : World) : Calls Tryd.prog 49 #[.string s, .int .u8 48] w (CutPost s.data.toList w) := by
  have HP : Hid (∀ (f k : Nat) (ps : List ByteArray), f ≤ k → (h : k < s.size) → pieces s.data.toList = ps.map (fun p => p.data.toList) ++ pieces (s.data.toList.drop f) → (∀ c ∈ (s.data.toList.drop f).take (k - f), c ≠ 48) → s[k] = 48 →
      pieces s.data.toList = (ps ++ [s.extract f k]).map (fun p => p.data.toList) ++ pieces (s.data.toList.drop (k + 1))) := fun f k ps hf hk hp hn hc => by
    have h2 : (s.data.toList.drop f)[k - f]? = some 48 := by
      rw [List.getElem?_drop, show f + (k - f) = k by omega, at_list s k hk, hc]
    rw [hp, pieces_cut _ _ hn h2, List.map_append, List.map_cons, List.map_nil, piece_list, List.drop_drop, show f + (k - f + 1) = k + 1 by omega]
    simp
  have HN : Hid (∀ (f k : Nat), f ≤ k → (h : k < s.size) → (∀ c ∈ (s.data.toList.drop f).take (k - f), c ≠ 48) → s[k] ≠ 48 → (∀ c ∈ (s.data.toList.drop f).take (k + 1 - f), c ≠ 48)) := fun f k hf hk hn hc => by
    have h2 : (s.data.toList.drop f)[k - f]? = some s[k] := by
      rw [List.getElem?_drop, show f + (k - f) = k by omega, at_list s k hk]
    rw [show k + 1 - f = k - f + 1 by omega, List.take_add_one, h2]
    intro c hm
    rcases List.mem_append.1 hm with h | h
    · exact hn c h
    · obtain rfl : c = s[k] := by simpa using h
      exact hc
  have HE : Hid (∀ (f : Nat) (ps : List ByteArray), f ≤ s.size → pieces s.data.toList = ps.map (fun p => p.data.toList) ++ pieces (s.data.toList.drop f) → (∀ c ∈ (s.data.toList.drop f).take (s.size - f), c ≠ 48) →
      (ps ++ [s.extract f s.size]).map (fun p => p.data.toList) = pieces s.data.toList) := fun f ps hf hp hn => by
    rw [List.take_of_length_le (by simp)] at hn
    rw [hp, pieces_none _ hn, List.map_append, List.map_cons, List.map_nil, piece_list, List.take_of_length_le (by simp)]
  go_enter Tryd.func49, Tryd.ntmps49
  go_wp2_with fail
  go_loopw [5, 6, 7] (fun o f i wr => ∃ (k fr g c : Nat) (ps : List ByteArray), k ≤ s.size ∧ fr ≤ k ∧ ps.length ≤ k ∧ i = .int .i64 k ∧ f = .int .i64 fr ∧ o = .slice (some ⟨g, 0, none⟩) ps.length c ∧ OwnT wr w.heap.size g ps.length c ps ∧
      Hid (pieces s.data.toList = ps.map (fun p => p.data.toList) ++ pieces (s.data.toList.drop fr)) ∧ Hid (∀ c ∈ (s.data.toList.drop fr).take (k - fr), c ≠ 48) ∧ Below w.heap.size w wr) (fun _ _ i _ => s.size - (intOf i).toNat)
  case atStart => exact ⟨0, 0, w.heap.size, 0, [], by omega, by omega, Nat.le_refl _, rfl, rfl, rfl, OwnT.lit0 w _ (Nat.le_refl _), by simp [Hid], by simp [Hid], (Below.refl _ _).alloc (Nat.le_refl _) _⟩
  case round =>
    obtain ⟨k, fr, g, c, ps, hk, hfr, hpl, rfl, rfl, rfl, hown, hp, hn, hbel⟩ := hrel
    have hsz := hbel.size
    by_cases hlt : k < s.size
    · have hk1 : k + 1 ≤ s.size := by omega
      by_cases h1 : (s[k].toNat : Int) = 48
      · have hc : s[k] = 48 := UInt8.toNat_inj.1 (by simp; omega)
        have hp2 := Lib.hid (HP.out fr k ps hfr hlt hp.out hn.out hc)
        have t1 := bT h1
        clear h1 hc
        go_wp2_with (at_builtin; refine appT _ rfl _ _ rfl w.heap.size _ _ _ _ rfl (OwnT.alloc hown (Obj.cells #[.string (s.extract fr k)] 9)) ⟨_, 0, none⟩ (s.extract fr k) rfl (alloc1_cell rfl) (by omega) (by simp; omega) ?_; intro g5 c5 w5 hown5 hgr5)
        have hb5 : Below w.heap.size w w5 := (hbel.alloc hsz _).grown hgr5 (by simp; omega) (fun j hj => by injection hj with hj; have := hown.block; omega)
        clear hgr5 hown
        have hl5 : (ps ++ [s.extract fr k]).length = ps.length + 1 := by simp
        go_wp2_with fail
        go_roundw
        case rel => exact ⟨k + 1, k + 1, g5, c5, ps ++ [s.extract fr k], by omega, by omega, by omega, by go_num, by go_num, by rw [hl5], by rw [hl5]; exact hown5, hp2.out, by simp [Hid], hb5⟩
        case measure => simp [intOf]; omega
      · have hc : s[k] ≠ 48 := fun e => h1 (by rw [e]; rfl)
        have hn2 := Lib.hid (HN.out fr k hfr hlt hn.out hc)
        have t1 := bF h1
        clear h1 hc
        go_wp2_with fail
        go_roundw
        case rel => exact ⟨k + 1, fr, g, c, ps, by omega, by omega, by omega, by go_num, rfl, rfl, hown, hp.out, hn2.out, hbel⟩
        case measure => simp [intOf]; omega
    · obtain rfl : k = s.size := by omega
      have hE := Lib.hid (HE.out fr ps hfr hp.out hn.out)
      clear hp hn HP HN HE
      go_wp2_with (at_builtin; refine appT _ rfl _ _ rfl w.heap.size _ _ _ _ rfl (OwnT.alloc hown (Obj.cells #[.string (s.extract fr s.size)] 9)) ⟨_, 0, none⟩ (s.extract fr s.size) rfl (alloc1_cell rfl) (by omega) (by simp; omega) ?_; intro g5 c5 w5 hown5 hgr5)
      have hb5 : Below w.heap.size w w5 := (hbel.alloc hsz _).grown hgr5 (by simp; omega) (fun j hj => by injection hj with hj; have := hown.block; omega)
      have hl5 : (ps ++ [s.extract fr s.size]).length = ps.length + 1 := by simp
      go_wp2_with fail
      go_ret
      exact ⟨g5, c5, ps ++ [s.extract fr s.size], by rw [hl5]; rfl, by rw [hl5]; exact hown5, hE.out, hb5⟩
end Go.Proofs.YtpldkfbglfcidaaDoor
