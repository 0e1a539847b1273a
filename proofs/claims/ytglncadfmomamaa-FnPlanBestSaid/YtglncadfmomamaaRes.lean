/- Results that are a slice of numbers and a bool. -/
import Derived.Test.YtglncadfmomamaaApp
import Derived.Test.YtglncadfmomamaaIm
namespace Go.Proofs.Ytglncadfmomamaa
set_option linter.unusedVariables false
set_option linter.unusedSimpArgs false
open Go.RowKit
/-- A slice of the call's own and a bool, as R says. -/
def SlPost (R : List Int → Bool → Prop) (w : World) (e : Ending) (w' : World) : Prop := ∃ A c xs ok, e = .returned (.tuple #[.slice A xs.length c, .bool ok]) ∧ R xs ok ∧ Own w' w.heap.size (.slice A xs.length c) xs ∧ Below w.heap.size w w'
theorem SlPost.mk {R : List Int → Bool → Prop} {w w' : World} {v : Value} {xs : List Int} {ok : Bool} (hR : R xs ok) (ho : Own w' w.heap.size v xs) (hb : Below w.heap.size w w') : SlPost R w (.returned (.tuple #[v, .bool ok])) w' := by
  obtain ⟨A, c, rfl, _⟩ := ho.form
  exact ⟨A, c, xs, ok, rfl, hR, ho, hb⟩
/-- A slice that can be read and a bool, as R says. -/
def SpPost (R : List Int → Bool → Prop) (w : World) (e : Ending) (w' : World) : Prop := ∃ A c xs ok, e = .returned (.tuple #[.slice A xs.length c, .bool ok]) ∧ R xs ok ∧ Iv w' w.heap.size w'.heap.size A xs ∧ Below w.heap.size w w'
theorem SlPost.sp {R : List Int → Bool → Prop} {w : World} {e : Ending} {w' : World} (h : SlPost R w e w') : SpPost R w e w' := by
  obtain ⟨A, c, xs, ok, rfl, hR, ho, hb⟩ := h
  exact ⟨A, c, xs, ok, rfl, hR, ho.iv, hb⟩
/-- The same of a slice alone. -/
def Sl1Post (R : List Int → Prop) (w : World) (e : Ending) (w' : World) : Prop := ∃ A c xs, e = .returned (.slice A xs.length c) ∧ R xs ∧ Own w' w.heap.size (.slice A xs.length c) xs ∧ Below w.heap.size w w'
theorem Sl1Post.mk {R : List Int → Prop} {w w' : World} {v : Value} {xs : List Int} (hR : R xs) (ho : Own w' w.heap.size v xs) (hb : Below w.heap.size w w') : Sl1Post R w (.returned v) w' := by
  obtain ⟨A, c, rfl, _⟩ := ho.form
  exact ⟨A, c, xs, rfl, hR, ho, hb⟩
def Sp1Post (R : List Int → Prop) (w : World) (e : Ending) (w' : World) : Prop := ∃ A c xs, e = .returned (.slice A xs.length c) ∧ R xs ∧ Iv w' w.heap.size w'.heap.size A xs ∧ Below w.heap.size w w'
theorem Sl1Post.sp {R : List Int → Prop} {w : World} {e : Ending} {w' : World} (h : Sl1Post R w e w') : Sp1Post R w e w' := by
  obtain ⟨A, c, xs, rfl, hR, ho, hb⟩ := h
  exact ⟨A, c, xs, rfl, hR, ho.iv, hb⟩
theorem held_x {A : Option Addr} {c B : Nat} {xs ym : List Int} (hym : ym.length = xs.length) (hyl : ym.length ≤ 1048576) (hk : ∀ j, j < xs.length → ym[j]? = some (1 + (j : Int))) (w : World) (h : Own w B (.slice A xs.length c) ym) :
    Calls Try.prog 42 #[.slice A xs.length c, .int .i64 1] w fun e w' => e = .returned (.int .i64 (1 + xs.length)) ∧ w = w' := by
  rw [← hym] at hk ⊢
  rw [← hym] at h
  exact heldIntS_any A c B w.heap.size ym hyl 1 (by omega) (by omega) hk w h.iv
/-- R tells one result. -/
def Fn1 (R : List Int → Bool → Prop) : Prop := ∀ xs ok ys ok', R xs ok → R ys ok' → xs = ys ∧ ok = ok'
end Go.Proofs.Ytglncadfmomamaa
