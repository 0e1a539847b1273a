/- Strings, byte by byte; is a text a signal? -/
import Derived.Test.YtpldkfbglfcidaaChecked
import Derived.Test.YtpldkfbglfcidaaSm
import Derived.WalkLawsBesides
import Derived.WalkSpells
import Derived.Outline
import Derived.BigRegion
import Derived.BigQuiet
import Derived.Deep.QuietTactic
import Derived.Lib.AsciiSet
import Derived.Lib.Strings
import Derived.Lib.IndexBytes
import Derived.Lib.Walk
import Derived.Laws.Strings3
import Derived.Laws.ResultCell
import Derived.Deep.LoopGhost
import Derived.Deep.WholeRow
namespace Go.Proofs.Ytpldkfbglfcidaa
set_option linter.unusedVariables false
set_option linter.unusedSimpArgs false
open Go.RowKit

theorem byte_eq (c : UInt8) (n : Nat) (h : n < 256) : (c == UInt8.ofNat n) = ((c.toNat : Int) == (n : Int)) := by
  rw [Bool.eq_iff_iff]; simp [← UInt8.toNat_inj]; omega
theorem at_list (s : ByteArray) (k : Nat) (h : k < s.size) : s.data.toList[k]? = some s[k] := by
  rw [List.getElem?_eq_getElem (by simpa using h)]; rfl
theorem all_take_succ {l : List UInt8} {p : UInt8 → Bool} {k : Nat} {c : UInt8} (h : l[k]? = some c) : (l.take (k + 1)).all p = ((l.take k).all p && p c) := by
  rw [List.take_add_one, h]; simp
def sgOk (c : UInt8) : Bool := c == 45 || (c == 43 || c == 48)
def sgValid (l : List UInt8) : Bool := l.all sgOk && decide (l.length ≤ 80)
/-- The pulses, as the program's text has them. -/
def pul : ByteArray := ⟨#[45, 43, 48]⟩
theorem pul_has (c : UInt8) : pul.data.toList.contains c = sgOk c := by
  simp [pul, sgOk, List.contains, List.elem]
  cases c == 45 <;> cases c == 43 <;> cases c == 48 <;> rfl
end Go.Proofs.Ytpldkfbglfcidaa
