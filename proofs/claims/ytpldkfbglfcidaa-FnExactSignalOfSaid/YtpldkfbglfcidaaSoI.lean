/- SignalOf of the program, walked. -/
import Derived.Test.YtpldkfbglfcidaaSo
import Derived.Test.YtpldkfbglfcidaaOws
import Derived.Test.YtpldkfbglfcidaaShelf156
import Derived.Laws.IdiomStrings
namespace Go.Proofs.Ytpldkfbglfcidaa
set_option linter.unusedVariables false
set_option linter.unusedSimpArgs false
open Go.RowKit Go.Shelf
theorem bytes_at (s : ByteArray) (cap : Nat) (w : World) (t : TypeId) (fr : Nat × Nat) (k : Nat) (hk : k < s.size) : (w.alloc (.cells (bytesRow s cap) t fr)).cell? ⟨w.heap.size, k, none⟩ = some (.int .u8 (s[k].toNat : Int)) := by
  rw [cell_of_row _ _ _ _ t fr (heap_alloc_new w _)]
  exact bytesRow_at s cap k hk
theorem joinExtra : Builder.Extra Try.prog Try.lays156_ren := { sizeBuilder := by kernel_rfl, liesBuilder := by kernel_rfl, t5 := Try.underlying5, a5 := Try.isAgg5, z5 := Try.sizeOf5, v5 := Try.zeroValue5, infoByte := by kernel_rfl, cellsByte := by kernel_rfl, sizeByte := by kernel_rfl, neB5 := by decide }
theorem join_any (g c : Nat) (xs : List (List UInt8)) (w : World) (hcells : ∀ (j : Nat) x, (xs.map fun l => (⟨l.toArray⟩ : ByteArray))[j]? = some x → w.cell? ⟨g, 0 + j, none⟩ = some (.string x)) (hg : g < w.heap.size) (hN : xs.length ≤ 1000) (hc : xs.length ≤ c) (hl : (Lib.join xs [48]).length ≤ 10000) (n : Nat) (hn : n = xs.length) :
    Calls Try.prog 9 #[.slice (some ⟨g, 0, none⟩) n c, .string ⟨#[48]⟩] w fun e w' => e = .returned (.string ⟨(Lib.join xs [48]).toArray⟩) ∧ Below w.heap.size w w' := by
  have e : (xs.map fun l => (⟨l.toArray⟩ : ByteArray)).map (·.data.toList) = xs := by rw [List.map_map]; simp [Function.comp_def]
  have h := Any.strings_Join Try.lays156 joinExtra g 0 c (xs.map fun l => (⟨l.toArray⟩ : ByteArray)) ⟨#[48]⟩ w hcells hg (by rw [List.length_map]; omega) (by rw [List.length_map]; exact hc) (by rw [e]; show (Lib.join xs [48]).length ≤ _; omega)
  rw [e, List.length_map] at h
  rw [hn]
  exact h
set_option maxRecDepth 100000 in
theorem implSo (s : ByteArray) (hs : s.size ≤ 1048576) (w : World) :
    Calls Try.prog 5 #[.string s] w (OfSPost s.data.toList w) := by
  have hlen : s.data.toList.length = s.size := by simp
  by_cases h12 : s.size ≤ 12
  · have HS := Lib.hid (fun k (h : k < s.size) => codesTo_succ h)
    have HL := Lib.hid (fun k h => ofTo_len s k h)
    have HB : Hid (∀ k (h : k < s.size), isLB s[k] = false → ofR s.data.toList ⟨#[]⟩ false) := fun k h hc => ofR_no (ofOk_bad h hc)
    have HN : Hid (∀ (h : ¬ ((ofTo s.data.toList s.size).length ≤ 80)), ofR s.data.toList ⟨#[]⟩ false) := fun h => ofR_no (by
      rw [ofOk, hlen, decide_eq_false h]; simp)
    have HY : Hid (s.data.toList.all isLB = true → (ofTo s.data.toList s.size).length ≤ 80 → ofR s.data.toList ⟨(ofTo s.data.toList s.size).toArray⟩ true) := fun h1 h3 => by
      have e : ofOk s.data.toList = true := by rw [ofOk, hlen, h1, decide_eq_true h12, decide_eq_true h3]; rfl
      exact ⟨by rw [if_pos e, hlen], e.symm⟩
    have hcv := fun w => run_bytes_of_string (P := Try.prog) w 9 27 5 s Try.underlying9 Try.underlying27 Try.underlying5
    clear hlen hs
    go_enter Try.func5, Try.ntmps5
    go_wp2_with fail
    go_loopw [4, 15] (fun v i wr => ∃ (k g c : Nat), k ≤ s.size ∧ i = .int .i64 k ∧ v = .slice (some ⟨g, 0, none⟩) k c ∧ Hid ((s.data.toList.take k).all isLB = true) ∧ OwnT wr w.heap.size g k c ((codesTo s.data.toList k).map fun l => (⟨l.toArray⟩ : ByteArray)) ∧ Below w.heap.size w wr ∧
      g ≠ w.heap.size + 1 ∧ Hid (∀ j (hj : j < s.size), wr.cell? ⟨w.heap.size + 1, j, none⟩ = some (.int .u8 (s[j].toNat : Int))) ∧ w.heap.size + 2 ≤ wr.heap.size) (fun _ i _ => s.size - (intOf i).toNat)
    case atStart =>
      refine ⟨0, _, _, by omega, rfl, rfl, by simp [Hid], (OwnT.lit0 w _ (Nat.le_refl _)).alloc _, (((Below.refl _ _).alloc (Nat.le_refl _) _).alloc (by simp) _).drew, by omega, fun j hj => ?_, by simp⟩
      have := bytes_at s (grownCap (w.alloc (Obj.cells #[] 9)) s.size 0 5) (w.alloc (Obj.cells #[] 9)) 5 ((bytesRow s (grownCap (w.alloc (Obj.cells #[] 9)) s.size 0 5)).size, (bytesRow s (grownCap (w.alloc (Obj.cells #[] 9)) s.size 0 5)).size + 1) j hj
      rwa [World.size_alloc] at this
    case round =>
      obtain ⟨k, g, c, hk, rfl, rfl, hall, hown, hbel, hne, hby, hsz2⟩ := hrel
      have hsz := hbel.size
      by_cases hlt : k < s.size
      · have hc0 := hby.out k hlt
        have hat := Lib.hid (at_list s k hlt)
        have hcb : 0 ≤ (s[k].toNat : Int) ∧ (s[k].toNat : Int) ≤ 255 := by have := s[k].toNat_lt; omega
        have hnx := HS.out k hlt
        have hLt := Lib.hid (isLetter_any (s[k].toNat : Int) hcb.1 hcb.2)
        have hdc : decide (97 ≤ (s[k].toNat : Int) ∧ (s[k].toNat : Int) ≤ 122) = isLB s[k] := by unfold isLB; exact decide_eq_decide.2 (by omega)
        rw [hdc] at hLt
        cases hc : isLB s[k] with
        | false =>
          rw [hc] at hLt
          have hR := Lib.hid (HB.out k hlt hc)
          clear hc hdc hnx hown hby
          go_wp2_with fail
          refine (hLt.out _).mono ?_
          rintro e w1 ⟨rfl, rfl⟩
          go_wp2_with fail
          go_ret2
          exact ⟨_, _, rfl, hR.out, hbel⟩
        | true =>
          rw [hc] at hLt
          have hle : 97 ≤ s[k].toNat ∧ s[k].toNat ≤ 122 := of_decide_eq_true hc
          have hall2 : Hid ((s.data.toList.take (k + 1)).all isLB = true) := by
            show _ = _
            rw [all_take_succ hat.out, hall.out, hc]; rfl
          have hCd := Lib.hid (codeOf_any (s[k].toNat : Int) (by omega) (by omega))
          rw [Int.toNat_natCast] at hCd
          obtain ⟨C, hC⟩ : ∃ C, C = codeB s[k].toNat := ⟨_, rfl⟩
          rw [← hC] at hCd hnx
          have hmap : Hid (((codesTo s.data.toList k).map fun l => (⟨l.toArray⟩ : ByteArray)) ++ [⟨C.toArray⟩] = (codesTo s.data.toList (k + 1)).map fun l => (⟨l.toArray⟩ : ByteArray)) := by show _ = _; rw [hnx, List.map_append]; rfl
          clear hc hdc hnx hle hC
          go_wp2_with fail
          refine (hLt.out _).mono ?_
          rintro e w1 ⟨rfl, rfl⟩
          go_wp2_with fail
          refine (hCd.out _).mono ?_
          rintro e w1 ⟨rfl, rfl⟩
          go_wp2_with (at_builtin; refine appT _ rfl _ _ rfl w.heap.size _ _ _ _ rfl (OwnT.alloc hown (Obj.cells #[.string ⟨C.toArray⟩] 9)) ⟨wr.heap.size, 0, none⟩ ⟨C.toArray⟩ rfl ((Row.new wr 9 [.string ⟨C.toArray⟩]).cellI rfl) (by omega) (by simp; omega) ?_; intro g5 c5 w5 hown5 hgr5)
          rw [hmap.out] at hown5
          have hb5 : Below w.heap.size w w5 := (hbel.alloc hsz _).grown hgr5 (by simp; omega) (fun j hj => by injection hj with hj; have := hown.block; omega)
          have hby5 : Hid (∀ j (hj : j < s.size), w5.cell? ⟨w.heap.size + 1, j, none⟩ = some (.int .u8 (s[j].toNat : Int))) := fun j hj => hgr5.cell ((World.cell?_alloc_lt wr _ _ (by show w.heap.size + 1 < _; omega)).trans (hby.out j hj)) (fun e => hne (by injection e with e; exact e.symm))
          have hsz5 : w.heap.size + 2 ≤ w5.heap.size := by have := hgr5.size; simp at this; omega
          have hne5 : g5 ≠ w.heap.size + 1 := by
            intro e
            obtain ⟨x, hx⟩ : ∃ x, ((codesTo s.data.toList (k + 1)).map fun l => (⟨l.toArray⟩ : ByteArray))[0]? = some x := ⟨_, List.getElem?_eq_getElem (by simp [codesTo])⟩
            have h1 := hown5.cell 0 x hx
            have h2 := hby5.out 0 (by omega)
            rw [e, h2] at h1
            cases h1
          clear hgr5 hown hbel hne hby hc0
          go_wp2_with fail
          go_roundw
          case rel => exact ⟨k + 1, g5, c5, by omega, by go_num, rfl, hall2.out, hown5, hb5, hne5, hby5, hsz5⟩
          case measure => simp [intOf]; omega
      · obtain rfl : k = s.size := by omega
        have hl := HL.out s.size (Nat.le_refl _)
        have hcl : (codesTo s.data.toList s.size).length = s.size := by simp [codesTo]
        have hgl := hown.block
        have hfm := hown.form
        have hall3 : Hid (s.data.toList.all isLB = true) := by
          have := hall.out
          rwa [List.take_of_length_le (by simp)] at this
        have hJ := Lib.hid (join_any g c (codesTo s.data.toList s.size) wr (fun j x hx => by rw [Nat.zero_add]; exact hown.cell j x hx) hgl.2 (by omega) (by rw [hcl]; exact hfm.1) (by show (ofTo s.data.toList s.size).length ≤ _; omega) s.size hcl.symm)
        obtain ⟨O, hO⟩ : ∃ O, O = ofTo s.data.toList s.size := ⟨_, rfl⟩
        have hJ2 : Hid (Calls Try.prog 9 #[.slice (some ⟨g, 0, none⟩) s.size c, .string ⟨#[48]⟩] wr fun e w' => e = .returned (.string ⟨O.toArray⟩) ∧ Below wr.heap.size wr w') := by rw [hO]; exact hJ.out
        rw [← hO] at HN HY hl
        clear hJ hcl hown hby hne hO hgl hfm
        by_cases h80 : O.length ≤ 80
        · have hR := Lib.hid (HY.out hall3.out h80)
          go_wp2_with fail
          refine hJ2.out.mono ?_
          rintro e w1 ⟨rfl, hb1⟩
          go_wp2_with fail
          go_ret2
          exact ⟨_, _, rfl, hR.out, hbel.trans (hb1.mono hsz)⟩
        · omega
  · have hR : Hid (ofR s.data.toList ⟨#[]⟩ false) := ofR_no (by
      rw [ofOk, hlen, decide_eq_false h12]; simp)
    clear hlen
    go_enter Try.func5, Try.ntmps5
    go_wp2_with fail
    go_ret2
    exact ⟨_, _, rfl, hR.out, Below.refl _ _⟩
end Go.Proofs.Ytpldkfbglfcidaa
