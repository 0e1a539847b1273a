/- PlanRate of the program, walked: the library's stable sort at few elements. -/
import Derived.Test.YtglncadfmomamaaSmith
import Derived.Test.YtglncadfmomamaaRes
import Derived.Test.YtglncadfmomamaaShelfG
import Derived.Sort.OwnSortedInts
namespace Go.Proofs.Ytglncadfmomamaa
set_option linter.unusedVariables false
set_option linter.unusedSimpArgs false
open Go.RowKit
/-- What the comparing closure says of two repairs. -/
def rcf (J : List Jb) (x y : Int) : Int := Lib.compareInt (jw J y * jd J x) (jw J x * jd J y)
theorem rcf_lt (J : List Jb) (x y : Int) : ltOf (rcf J) x y = rlt (jd J) (jw J) x y := by
  unfold ltOf rlt rcf Lib.compareInt
  (repeat' split) <;> simp <;> omega
def rsl (J : List Jb) (x : Int) : Int := x % J.length
def renc (J : List Jb) (x : Int) : Value := .int .i64 (rsl J x)
def rcf' (J : List Jb) (x y : Int) : Int := rcf J (rsl J x) (rsl J y)
theorem rsl_in {J : List Jb} (h : 0 < J.length) (x : Int) : ∃ q : Nat, rsl J x = q ∧ q < J.length := by
  have h1 := Int.emod_nonneg x (show (J.length : Int) ≠ 0 by omega)
  have h2 := Int.emod_lt_of_pos x (show 0 < (J.length : Int) by omega)
  obtain ⟨q, hq⟩ := Int.eq_ofNat_of_zero_le h1
  exact ⟨q, hq, by omega⟩
theorem rsl_same {J : List Jb} {x : Int} (h0 : 0 ≤ x) (h1 : x < J.length) : rsl J x = x := Int.emod_eq_of_lt h0 h1
theorem putRow_congr {enc enc' : Int → Value} {d : Array Int} (h : ∀ j, j < d.size → enc d[j]! = enc' d[j]!) (w : World) (blk off : Nat) : Sort.putRow enc w blk off d = Sort.putRow enc' w blk off d := by
  unfold Sort.putRow
  congr 1
  funext c
  unfold Sort.putCells
  apply Array.ext_getElem?
  intro k
  simp only [Array.getElem?_mapIdx]
  cases c[k]? with
  | none => rfl
  | some y =>
    simp only [Option.map_some]
    by_cases hk : off ≤ k ∧ k < off + d.size
    · rw [if_pos hk, if_pos hk, h (k - off) (by omega)]
    · rw [if_neg hk, if_neg hk]
theorem arr_get {l : List Int} {j : Nat} (h : j < l.length) : l.toArray[j]! ∈ l := by
  rw [getElem!_pos _ j (by simpa using h)]
  simp
theorem rate_sorted {J : List Jb} (h : JobsFit J) : Sort.insertionSort (ltOf (rcf' J)) (upTo J.length).toArray 0 J.length = (rateV J).toArray := by
  have e : ltOf (rcf' J) = rlt (fun x => jd J (rsl J x)) (fun x => jw J (rsl J x)) := by
    funext x y
    exact rcf_lt J (rsl J x) (rsl J y)
  have hf : RateFit (fun x => jd J (rsl J x)) J.length := fun x h0 h1 => by
    show 0 < jd J (rsl J x)
    rw [rsl_same h0 h1]; exact jobs_rate h x h0 h1
  rw [e, sort_rate hf]
  unfold rateV
  rw [rateTo_congr (n := J.length) (d' := jd J) (w' := jw J) (fun x h0 h1 => by rw [rsl_same h0 h1]; exact ⟨rfl, rfl⟩) J.length (Nat.le_refl _)]
set_option maxRecDepth 100000 in
theorem rate_clo (J : List Jb) (hfit : ∀ q : Nat, q < J.length → 1 ≤ jd J q ∧ jd J q ≤ 9 ∧ 1 ≤ jw J q ∧ jw J q ≤ 9) (B b off c : Nat) (i k : Nat) (hi : i < J.length) (hk : k < J.length) (W : World) (hB : W.cell? ⟨B, 0, none⟩ = some (.slice (some ⟨b, off, none⟩) J.length c))
    (hc : ∀ q : Nat, q < J.length → W.cell? ⟨b, off + q * 2, none⟩ = some (.int .i64 (jd J q)) ∧ W.cell? ⟨b, off + q * 2 + 1, none⟩ = some (.int .i64 (jw J q))) :
    Calls Try.prog 59 #[.int .i64 i, .int .i64 k, .pointer (some ⟨B, 0, none⟩)] W fun e w' => e = .returned (.int .i64 (rcf J i k)) ∧ ∃ q, w' = W.drewN q := by
  obtain ⟨i1, i2⟩ := hc i hi
  obtain ⟨k1, k2⟩ := hc k hk
  have f1 := hfit i hi
  have f2 := hfit k hk
  have hcmp := fun x => AnyG.cmp_Compare_int Try.cmpK (jw J k * jd J i) (jw J i * jd J k) (W.drewN x)
  change ∀ x, Calls Try.prog 60 _ _ _ at hcmp
  obtain ⟨r, hr⟩ : ∃ r, r = rcf J i k := ⟨_, rfl⟩
  have hr' : Lib.compareInt (jw J k * jd J i) (jw J i * jd J k) = r := by rw [hr]; rfl
  rw [hr'] at hcmp
  rw [← hr]
  obtain ⟨di, hdi⟩ : ∃ d, d = jd J i := ⟨_, rfl⟩
  obtain ⟨wi, hwi⟩ : ∃ d, d = jw J i := ⟨_, rfl⟩
  obtain ⟨dk, hdk⟩ : ∃ d, d = jd J k := ⟨_, rfl⟩
  obtain ⟨wk, hwk⟩ : ∃ d, d = jw J k := ⟨_, rfl⟩
  rw [← hdi, ← hwi] at f1
  rw [← hdk, ← hwk] at f2
  rw [← hdi] at i1
  rw [← hwi] at i2
  rw [← hdk] at k1
  rw [← hwk] at k2
  rw [← hdi, ← hwi, ← hdk, ← hwk] at hcmp
  have p1 : IntKind.i64.wrap (wk * di) = wk * di := by
    have := Int.mul_le_mul (show wk ≤ 9 by omega) (show di ≤ 9 by omega) (by omega) (by omega)
    have := Int.mul_nonneg (show 0 ≤ wk by omega) (show 0 ≤ di by omega)
    exact IntWalk.i64_in _ (by omega)
  have p2 : IntKind.i64.wrap (wi * dk) = wi * dk := by
    have := Int.mul_le_mul (show wi ≤ 9 by omega) (show dk ≤ 9 by omega) (by omega) (by omega)
    have := Int.mul_nonneg (show 0 ≤ wi by omega) (show 0 ≤ dk by omega)
    exact IntWalk.i64_in _ (by omega)
  have HC : Hid (∀ x, Calls Try.prog 60 #[.int .i64 (wk * di), .int .i64 (wi * dk)] (W.drewN x) fun e w' => e = .returned (.int .i64 r) ∧ ∃ m, w' = W.drewN m) := fun x => (hcmp x).mono fun e w' ⟨he, hw⟩ => ⟨he, x, hw⟩
  obtain ⟨n, hn⟩ : ∃ n, n = J.length := ⟨_, rfl⟩
  rw [← hn] at hi hk hB
  clear hc hcmp hr hr' hdi hwi hdk hwk hn f1 f2
  go_enter Try.func59, Try.ntmps59
  go_wp2_with fail
  go_quiet (first | (go_at_call 60; exact HC.out _))
  go_wp2_with fail
  go_ret
  exact ⟨rfl, _, rfl⟩
set_option maxRecDepth 100000 in
theorem sort_ins (J : List Jb) (hfit : JobsFit J) (h6 : J.length ≤ 6) (Bx B0 g c cJ : Nat) (AJ : Option Addr) (w : World) (hJ : Jbs w B0 AJ J) (hx : w.cell? ⟨Bx, 0, none⟩ = some (.slice AJ J.length cJ)) (hxB : Bx < B0) (hg : B0 ≤ g)
    (ho : Own w B0 (.slice (some ⟨g, 0, none⟩) J.length c) (upTo J.length)) :
    Calls Try.prog 92 #[.slice (some ⟨g, 0, none⟩) J.length c, .int .i64 0, .int .i64 J.length, .func (.func 59) #[] #[.pointer (some ⟨Bx, 0, none⟩)]] w
      fun e w' => e = .returned (.tuple #[]) ∧ Own w' B0 (.slice (some ⟨g, 0, none⟩) J.length c) (rateV J) ∧ w.grownBy w' (some g) := by
  rcases Nat.eq_zero_or_pos J.length with h0 | h0
  · have hr : rateV J = [] := by have := rateV_length J; rw [h0] at this; exact List.length_eq_zero_iff.1 this
    have hu : upTo J.length = [] := by rw [h0]; rfl
    rw [hu] at ho
    rw [hr]
    rw [h0] at ho ⊢
    have HO := Lib.hid ho
    clear ho hJ hx hr hu
    go_enter Try.func92, Try.ntmps92
    go_wp2
    refine wp_loop_rounds 1 ?_
    rw [rounds_succ]
    go_wp2
    go_end0
    exact ⟨rfl, HO.out, grown_refl _ _⟩
  · obtain ⟨b, off, rfl, hb, hc⟩ := hJ h0
    have hupl : (upTo J.length).length = J.length := by simp [upTo]
    unfold Own at ho
    rw [hupl] at ho
    rcases ho.2 with ⟨e, _⟩ | ⟨g', cap', cur, e, hBg, hblk, hl, hcap, hsz, htk⟩
    · cases e
    cases e
    have hgw : g < w.heap.size := (Array.getElem?_eq_some_iff.1 hblk).1
    have hH0 : Sort.Holds (Value.int .i64) w g 0 (upTo J.length).toArray := holds_of_blockI hblk (by rw [hupl]; have := htk; rw [Nat.mul_one] at this; exact this)
    have hin : ∀ l : List Int, (∀ x, x ∈ l → 0 ≤ x ∧ x < J.length) → ∀ j, j < l.toArray.size → renc J l.toArray[j]! = Value.int .i64 l.toArray[j]! := fun l hl j hj => by
      have := hl _ (arr_get (l := l) (j := j) (by simpa using hj))
      unfold renc
      rw [rsl_same this.1 this.2]
    have hup : ∀ x, x ∈ upTo J.length → 0 ≤ x ∧ x < J.length := fun x hx => (range_ok J.length).1 x hx
    have hH : Sort.Holds (renc J) w g 0 (upTo J.length).toArray := fun j hj => by
      rw [hin _ hup j hj]; exact hH0 j hj
    have hcmp : CmpReads Try.prog 59 #[.pointer (some ⟨Bx, 0, none⟩)] (renc J) (rcf' J) g 0 (upTo J.length).toArray.size w := by
      intro m os dk _ x y
      obtain ⟨i, hi, hin⟩ := rsl_in h0 x
      obtain ⟨k, hk, hkn⟩ := rsl_in h0 y
      have hcell : ∀ p : Addr, p.block ≠ g → p.block < w.heap.size → (sortWorld (renc J) w g 0 m dk os).cell? p = w.cell? p := fun p hp hl => by
        unfold sortWorld World.cell?
        rw [Sort.heap_grow_old _ _ (by simpa [Sort.putRow, Sort.mapBlock, Sort.ahead] using hl)]
        simp [Sort.putRow, Sort.mapBlock, Sort.ahead, Array.getElem?_modify, Ne.symm hp]
      have h := rate_clo J (fun q hq => by
        have := hfit q hq
        exact this) Bx b off cJ i k hin hkn (sortWorld (renc J) w g 0 m dk os) ((hcell ⟨Bx, 0, none⟩ (by show Bx ≠ g; omega) (by show Bx < _; omega)).trans hx)
        (fun q hq => by
          have hjq : J[q]? = some (jAt J (q : Nat)) := by unfold jAt; rw [Int.toNat_natCast, List.getD, List.getElem?_eq_getElem hq]; rfl
          obtain ⟨h1, h2⟩ := hc q _ hjq
          exact ⟨(hcell ⟨b, _, none⟩ (by show b ≠ g; omega) (by show b < _; omega)).trans h1, (hcell ⟨b, _, none⟩ (by show b ≠ g; omega) (by show b < _; omega)).trans h2⟩)
      unfold renc rcf'
      rw [hi, hk]
      exact h
    have eg : ∀ args w, (callFunc 59 args).run Try.prog w = .ok (.enter 59 args) w := enters_of Try.func59 (by kernel_rfl) rfl
    have hI := Any.insertionSortCmpFunc_one Try.insK (renc J) (fun _ => rfl) (rcf' J) 59 #[.pointer (some ⟨Bx, 0, none⟩)] g 0 c 0 J.length (upTo J.length).toArray w eg hcmp hH (Nat.zero_le _) (by simp [upTo]) (by simp [upTo]; omega)
    have hds : (upTo J.length).toArray.size = J.length := by simp [upTo]
    rw [hds] at hI
    refine hI.mono fun e w' ⟨he, m, hw⟩ => ⟨he, ?_⟩
    rw [rate_sorted hfit, putRow_congr (hin _ (fun x hx => (rateV_ok J).1 x hx))] at hw
    have e2 : (Sort.putRow (Value.int .i64) w g 0 (rateV J).toArray).drewN m = Sort.grow (Sort.putRow (Value.int .i64) (Sort.ahead w m) g 0 (rateV J).toArray) #[] := by
      rw [Sort.grow_empty]; rfl
    rw [hw, e2]
    refine ⟨?_, grownBy_sortedI _⟩
    have := ownsRow_sortedI (w := w) (n := m) (os := #[]) (ss := upTo J.length) (ts := rateV J) (cap := c) (base := B0) (by rw [rateV_length, hupl]) hg hblk (by rw [hupl]; exact hl) hcap hsz
    rw [hupl] at this
    unfold Own
    rw [rateV_length]
    exact this
set_option maxRecDepth 100000 in
theorem sort_stable (J : List Jb) (hfit : JobsFit J) (h6 : J.length ≤ 6) (Bx B0 g c cJ : Nat) (AJ : Option Addr) (w : World) (hJ : Jbs w B0 AJ J) (hx : w.cell? ⟨Bx, 0, none⟩ = some (.slice AJ J.length cJ)) (hxB : Bx < B0) (hg : B0 ≤ g)
    (ho : Own w B0 (.slice (some ⟨g, 0, none⟩) J.length c) (upTo J.length)) :
    Calls Try.prog 82 #[.slice (some ⟨g, 0, none⟩) J.length c, .int .i64 J.length, .func (.func 59) #[] #[.pointer (some ⟨Bx, 0, none⟩)]] w
      fun e w' => e = .returned (.tuple #[]) ∧ Own w' B0 (.slice (some ⟨g, 0, none⟩) J.length c) (rateV J) ∧ w.grownBy w' (some g) := by
  have H := Lib.hid (sort_ins J hfit h6 Bx B0 g c cJ AJ w hJ hx hxB hg ho)
  obtain ⟨n, hn⟩ : ∃ n, n = J.length := ⟨_, rfl⟩
  rw [← hn] at H h6 ⊢
  clear hJ hx ho hn
  go_enter Try.func82, Try.ntmps82
  go_wp2
  refine wp_loop_rounds 1 ?_
  rw [rounds_succ]
  go_wp2_with fail
  refine H.out.mono ?_
  rintro e w' ⟨rfl, hO, hG⟩
  replace hO := Lib.hid hO
  go_wp2
  refine wp_loop_rounds 1 ?_
  rw [rounds_succ]
  go_wp2
  go_end0
  exact ⟨rfl, hO.out, hG⟩
set_option maxRecDepth 100000 in
theorem sort_any (J : List Jb) (hfit : JobsFit J) (h6 : J.length ≤ 6) (Bx B0 g c cJ : Nat) (AJ : Option Addr) (w : World) (hJ : Jbs w B0 AJ J) (hx : w.cell? ⟨Bx, 0, none⟩ = some (.slice AJ J.length cJ)) (hxB : Bx < B0) (hg : B0 ≤ g)
    (ho : Own w B0 (.slice (some ⟨g, 0, none⟩) J.length c) (upTo J.length)) :
    Calls Try.prog 58 #[.slice (some ⟨g, 0, none⟩) J.length c, .func (.func 59) #[] #[.pointer (some ⟨Bx, 0, none⟩)]] w
      fun e w' => e = .returned (.tuple #[]) ∧ Own w' B0 (.slice (some ⟨g, 0, none⟩) J.length c) (rateV J) ∧ w.grownBy w' (some g) := by
  have H := Lib.hid (sort_stable J hfit h6 Bx B0 g c cJ AJ w hJ hx hxB hg ho)
  obtain ⟨n, hn⟩ : ∃ n, n = J.length := ⟨_, rfl⟩
  rw [← hn] at H h6 ⊢
  clear hJ hx ho hn
  go_enter Try.func58, Try.ntmps58
  go_wp2_with fail
  refine H.out.mono ?_
  rintro e w' ⟨rfl, hO, hG⟩
  replace hO := Lib.hid hO
  go_wp2_with fail
  go_end0
  exact ⟨rfl, hO.out, hG⟩
def rateR (l : List UInt8) (J : List Jb) (xs : List Int) (ok : Bool) : Prop := xs = (if planV l J = true then rateV J else []) ∧ ok = planV l J
theorem rateR_one (l : List UInt8) (J : List Jb) : Fn1 (rateR l J) := fun xs ok ys ok' h1 h2 => ⟨h1.1.trans h2.1.symm, h1.2.trans h2.2.symm⟩
theorem rateR_len {l : List UInt8} {J : List Jb} {xs : List Int} {ok : Bool} (hJ : J.length ≤ 1048576) (h : rateR l J xs ok) : xs.length ≤ 1048576 := by
  rw [h.1]
  split
  · rw [rateV_length]; exact hJ
  · simp
theorem upTo_succ (k : Nat) : upTo k ++ [(k : Int)] = upTo (k + 1) := by
  unfold upTo; rw [List.range_succ]; simp
set_option maxRecDepth 100000 in
set_option maxHeartbeats 2000000 in
theorem implPlanRate (s : ByteArray) (AJ : Option Addr) (c : Nat) (J : List Jb) (hs : s.size ≤ maxLen) (hJn : J.length ≤ 1048576) (w : World) (hJ : Jbs w w.heap.size AJ J) :
    Calls Try.prog 24 #[.string s, .slice AJ J.length c] w (SlPost (rateR s.data.toList J) w) := by
  have H1 := Lib.hid (planable_any s AJ c J hs hJn)
  have HS := Lib.hid (sort_any J)
  obtain ⟨n, hn⟩ : ∃ n, n = J.length := ⟨_, rfl⟩
  have Hn := Lib.hid hn
  rw [← hn] at H1 HS hJn ⊢
  have hb0 : Below w.heap.size w (w.alloc (Obj.cells #[.slice AJ n c] 25)) := (Below.refl _ w).alloc (Nat.le_refl _) _
  have HJ : Hid (∀ w', Below w.heap.size w w' → Jbs w' w.heap.size AJ J) := fun w' h => hJ.below h
  obtain ⟨pv, hpv⟩ : ∃ b, b = planV s.data.toList J := ⟨_, rfl⟩
  have Hpv := Lib.hid hpv
  rw [← hpv] at H1
  have r0 : Row (w.alloc (Obj.cells #[.slice AJ n c] 25)) w.heap.size 25 [.slice AJ n c] := Row.newS _ _ _ rfl rfl
  clear hn hJ hpv
  go_enter Try.func24, Try.ntmps24
  go_wp2_with fail
  refine (H1.out _ ((HJ.out _ hb0).more hb0.size)).mono ?_
  rintro e w1 ⟨m, hm, rfl, hb1⟩
  clear hm
  have r1 := r0.below hb1 r0.lt
  have hsz1 := hb1.size
  rw [World.size_alloc] at hsz1
  replace hb1 := hb0.trans (hb1.mono hb0.size)
  have r1c := r1.cellI (i := 0) rfl
  obtain ⟨z, hz⟩ : ∃ z, z = s.data.toList.length := ⟨_, rfl⟩
  rw [← hz]
  clear r0 hb0 hz
  cases pv with
  | false =>
    go_wp2_with fail
    go_ret2
    exact SlPost.mk ⟨by rw [← Hpv.out]; rfl, Hpv.out⟩ (Own.nil _ _) (hb1.alloc hb1.size _)
  | true =>
    have hfit := plan_fit Hpv.out.symm
    have h6 : J.length ≤ 6 := by
      have := (planIn_fit (planIn_first Hpv.out.symm)).2.2.2.1.1
      simpa using this
    rw [← Hn.out] at h6
    have Hf := Lib.hid hfit
    obtain ⟨W1, hW1⟩ : ∃ W1, W1 = w1.alloc (Obj.cells #[.int .u32 m, .int .i64 z] 64) := ⟨_, rfl⟩
    have hW1s : W1.heap.size = w1.heap.size + 1 := by rw [hW1]; simp
    have hbW : Below w.heap.size w W1 := by rw [hW1]; exact hb1.alloc hb1.size _
    have rW : Row W1 w.heap.size 25 [.slice AJ n c] := by rw [hW1]; exact r1.alloc _
    have rWc := rW.cellI (i := 0) rfl
    have rWd := (rW.alloc (Obj.cells (madeCells #[.int .i64 0] n) 3)).cellI (i := 0) rfl
    have hmk := mk_cap (n : Int) n rfl (by omega) W1
    rw [hW1] at rWc rWd hmk
    have HR := Lib.hid rW
    have HW1 := Lib.hid hW1
    clear hfit r1 r1c rW hW1
    go_wp2_with fail
    rw [← HW1.out, show w1.heap.size + 1 = W1.heap.size from hW1s.symm]
    replace hW1s := Lib.hid hW1s
    go_loopw [8, 9, 23] (fun v _ i wr => ∃ (k : Nat) (A' : Option Addr) (c' : Nat), k ≤ n ∧ i = .int .i64 k ∧ v = .slice A' k c' ∧ Own wr W1.heap.size (.slice A' k c') (upTo k) ∧ Below W1.heap.size W1 wr ∧ Hid (A' = none → False)) (fun _ _ i _ => n - (intOf i).toNat)
    case atStart => exact ⟨0, _, _, by omega, rfl, rfl, Own.made0 _ _ _ (Nat.le_refl _) (by omega), (Below.refl _ _).alloc (Nat.le_refl _) _, fun h => by cases h⟩
    case round =>
      obtain ⟨k, A', c', hk, rfl, rfl, hown, hbel, hA⟩ := hrel
      have hsz := hbel.size
      by_cases hkn : k < n
      · have hlen : Hid ((upTo k).length = k) := by show _ = _; simp [upTo]
        have hst := Lib.hid (upTo_succ k)
        clear hmk rWc rWd
        go_wp2_with (at_builtin; refine app1 _ rfl _ _ rfl W1.heap.size _ _ rfl (Own.alloc hown (Obj.cells #[.int .i64 (k : Int)] 3)) k hlen.out ⟨wr.heap.size, 0, none⟩ (k : Int) rfl (alloc1_cell rfl) (by omega) (by simp; omega) ?_; intro A5 c5 w5 hown5 hgr5)
        rw [hst.out] at hown5
        have hb5 : Below W1.heap.size W1 w5 := Own.grownBelow (hown.alloc _) hgr5 (hbel.alloc hsz _) (Nat.le_refl _) (by simp; omega)
        have hA5 : Hid (A5 = none → False) := fun h => by
          obtain ⟨g, hg, _⟩ := hown5.some (by rw [← hst.out]; simp)
          rw [h] at hg; cases hg
        clear hgr5 hown hbel hA
        go_wp2_with fail
        go_roundw
        case rel => exact ⟨k + 1, A5, c5, by omega, by go_num, rfl, hown5, hb5, hA5⟩
        case measure => simp [intOf]; omega
      · obtain rfl : k = n := by omega
        have hbb := hbW.trans (hbel.mono hbW.size)
        have rx := HR.out.below hbel HR.out.lt
        have rxc := rx.cellI (i := 0) rfl
        have hwl : w.heap.size < W1.heap.size := HR.out.lt
        rcases hown.spot with rfl | ⟨g, rfl, hg, hgl⟩
        · exact (hA.out rfl).elim
        · have hso := HS.out Hf.out (by omega) w.heap.size W1.heap.size g c' c AJ wr ((HJ.out _ hbb).more hbW.size) rxc hwl hg hown
          replace hso := Lib.hid hso
          clear hmk rWc rWd rx
          go_wp2_with fail
          refine hso.out.mono ?_
          rintro e w5 ⟨rfl, hO5, hg5⟩
          have hb5 := hbb.grown hg5 hbb.size (fun j hj => by injection hj with hj; omega)
          replace hO5 := Lib.hid hO5
          go_wp2_with fail
          go_ret2
          have hl : (rateV J).length = k := by rw [rateV_length, Hn.out]
          have hO6 := hO5.out
          have h1 := SlPost.mk (w := w) (R := rateR s.data.toList J) (ok := true) ⟨by rw [← Hpv.out]; rfl, Hpv.out⟩ (hO6.more (Nat.le_of_lt hwl)) hb5
          exact h1
end Go.Proofs.Ytglncadfmomamaa
