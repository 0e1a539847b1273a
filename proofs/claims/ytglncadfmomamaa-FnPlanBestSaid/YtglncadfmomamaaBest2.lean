/- The greedy order of the reference is the program's first best one: plain. -/
import Derived.Test.YtglncadfmomamaaBest
import Derived.Test.YtglncadfmomamaaLoLaw
namespace Go.Proofs.Ytglncadfmomamaa
set_option linter.unusedVariables false
set_option linter.unusedSimpArgs false
theorem perms_ext {n : Nat} : ∀ (r : Nat) (dn : List Int), PreOk n dn → dn.length + r = n → ∃ tl, PreOk n (dn ++ tl) ∧ (dn ++ tl).length = n
  | 0, dn, h, hl => ⟨[], by simpa using h, by simp; omega⟩
  | r + 1, dn, h, hl => by
    obtain ⟨k, hk, hm⟩ := pre_free (n := n) (dn := dn) (by omega)
    obtain ⟨tl, h1, h2⟩ := perms_ext r (dn ++ [(k : Int)]) (h.snoc hk hm) (by simp; omega)
    rw [List.append_assoc] at h1 h2
    exact ⟨_, h1, h2⟩
theorem getD_pre {x tl : List Int} {j : Nat} (hj : j < x.length) : (x ++ tl).getD j 0 = x.getD j 0 := by
  simp [List.getD, List.getElem?_append_left hj]
theorem workTo_pre (J : List Jb) (x tl : List Int) : ∀ k, k ≤ x.length → workTo J (x ++ tl) k = workTo J x k
  | 0, _ => rfl
  | k + 1, h => by rw [workTo, workTo, workTo_pre J x tl k (by omega), getD_pre (by omega)]
def wkf (J : List Jb) (x : List Int) : Int := workTo J x x.length
theorem wkf_snoc (J : List Jb) (x : List Int) (k : Nat) : wkf J (x ++ [(k : Int)]) = wkf J x + (jAt J (k : Nat)).d := by
  unfold wkf
  rw [List.length_append]
  show workTo J (x ++ [(k : Int)]) (x.length + 1) = _
  rw [workTo, workTo_pre J x _ _ (Nat.le_refl _)]
  simp [List.getD]
theorem lossOn_pre (ls : List UInt8) (J : List Jb) (x tl : List Int) : ∀ (r : List Nat), (∀ k, k ∈ r → k < x.length) → lossOn ls J (x ++ tl) r = lossOn ls J x r
  | [], _ => rfl
  | k :: r, h => by
    rw [lossOn, lossOn, lossOn_pre ls J x tl r (fun j hj => h j (by simp [hj])), getD_pre (h k (by simp)), workTo_pre J x tl _ (h k (by simp))]
theorem lossV_snoc (ls : List UInt8) (J : List Jb) (x : List Int) (k : Nat) : lossV ls J (x ++ [(k : Int)]) = lossV ls J x + (jAt J (k : Nat)).w * fcEnd ls (wkf J x + (jAt J (k : Nat)).d) := by
  have h := wkf_snoc J x k
  unfold wkf at h
  rw [List.length_append] at h
  replace h : workTo J (x ++ [(k : Int)]) (x.length + 1) = _ := h
  unfold lossV
  rw [List.length_append]
  show lossOn ls J _ (List.range (x.length + 1)) = _
  rw [List.range_succ, lossOn_snoc, lossOn_pre ls J x _ _ (fun k hk => List.mem_range.1 hk), h]
  simp [List.getD, wkf]
theorem lossV_nonneg {ls : List UInt8} {J : List Jb} {P : List Int} (h : ∀ k, k < P.length → 0 ≤ (jAt J (P.getD k 0)).w * fcEnd ls (workTo J P (k + 1))) : 0 ≤ lossV ls J P := by
  unfold lossV
  have : ∀ r : List Nat, (∀ k, k ∈ r → k < P.length) → 0 ≤ lossOn ls J P r := by
    intro r
    induction r with
    | nil => intro _; simp [lossOn]
    | cons k r ih =>
      intro hr
      rw [lossOn]
      have h1 := h k (hr k (by simp))
      have h2 := ih (fun j hj => hr j (by simp [hj]))
      omega
  exact this _ (fun k hk => List.mem_range.1 hk)
theorem ext_fit {ls : List UInt8} {J : List Jb} {x : List Int} (h : planV ls J = true) (hx : PreOk J.length x) : x.length ≤ J.length ∧ ∀ k, k < x.length → 0 ≤ (jAt J (x.getD k 0)).w ∧ 0 ≤ fcEnd ls (workTo J x (k + 1)) ∧ 0 ≤ workTo J x k ∧ workTo J x (k + 1) ≤ fcAhead ls ls.length := by
  have hl : x.length ≤ J.length := by
    have := sub_len x ((List.range J.length).map fun k : Nat => (k : Int)) hx.2 (fun y hy => by
      have := hx.1 y hy
      obtain ⟨k, rfl⟩ := Int.eq_ofNat_of_zero_le this.1
      exact List.mem_map.2 ⟨k, List.mem_range.2 (by omega), rfl⟩)
    simpa using this
  obtain ⟨tl, h1, h2⟩ := perms_ext (J.length - x.length) x hx (by omega)
  have hin := planIn_any' h h1 h2
  obtain ⟨hfv, hl30, hjf, hpf, hlen, hperm⟩ := planIn_fit hin
  obtain ⟨hww, hwd, hwk⟩ := plan_work hin
  refine ⟨hl, fun k hk => ?_⟩
  have hk2 : k < (x ++ tl).length := by simp; omega
  obtain ⟨w1, w2⟩ := hwk k hk2
  have w3 := hpf.2.2 k (by omega)
  rw [workTo_pre J x tl _ (by omega)] at w1 w2 w3
  obtain ⟨p1, p2⟩ := hpf.2.1 k hk2
  rw [getD_pre hk] at p1 p2
  obtain ⟨q, hq⟩ := Int.eq_ofNat_of_zero_le p1
  have hj := hjf q (by omega)
  rw [hq]
  refine ⟨by omega, ?_, w3.1, w2⟩
  obtain ⟨m, hm⟩ := Int.eq_ofNat_of_zero_le (show 0 ≤ workTo J x (k + 1) by omega)
  rw [hm] at w2 ⊢
  rw [fcEnd_on (by omega)]
  omega
theorem best_fit {ls : List UInt8} {J : List Jb} (h : planV ls J = true) :
    (∀ x, PreOk J.length x → 0 ≤ lossV ls J x) ∧ ∀ x k, PreOk J.length x → k < J.length → (k : Int) ∉ x → lossV ls J (x ++ [(k : Int)]) = lossV ls J x + (jAt J (k : Nat)).w * fcDay ls (wkf J x + (jAt J (k : Nat)).d) ∧ wkf J (x ++ [(k : Int)]) = wkf J x + (jAt J (k : Nat)).d ∧ 0 ≤ (jAt J (k : Nat)).w * fcDay ls (wkf J x + (jAt J (k : Nat)).d) := by
  obtain ⟨hfv, -⟩ := planIn_fit (planIn_first h)
  refine ⟨fun x hx => lossV_nonneg fun k hk => ?_, fun x k hx hk hm => ⟨?_, wkf_snoc J x k, ?_⟩⟩
  · obtain ⟨-, h2⟩ := ext_fit h hx
    have := h2 k hk
    exact Int.mul_nonneg this.1 this.2.1
  · rw [fcDay_end hfv, lossV_snoc]
  · obtain ⟨-, h2⟩ := ext_fit h (hx.snoc hk hm)
    have h3 := h2 x.length (by simp)
    have e := wkf_snoc J x k
    unfold wkf at e
    rw [List.length_append] at e
    replace e : workTo J (x ++ [(k : Int)]) (x.length + 1) = _ := e
    rw [e] at h3
    simp only [List.getD, List.getElem?_append_right (Nat.le_refl _), Nat.sub_self, List.getElem?_cons_zero, Option.getD_some] at h3
    rw [fcDay_end hfv]
    exact Int.mul_nonneg h3.1 h3.2.1
theorem best_greedy {ls : List UInt8} {J : List Jb} (h : planV ls J = true) : (bestOf (lossV ls J) (perms J.length J.length [])).1 = gBest (fcDay ls) J J.length J.length [] 0 := by
  obtain ⟨h1, h2⟩ := best_fit h
  rw [(best_perms (E := fcDay ls) (wkf := wkf J) h1 h2 J.length [] (by simp) ⟨by simp, by simp⟩).1]
  rfl
end Go.Proofs.Ytglncadfmomamaa
