/-
  DERIVED. GIVEN WITH THE SEED: THE CARDS: each row of YtmccicgpgcidoaaDoorRows.lean that lists a variable, with what it lists TIED to the program's text (the seventh form; the later family's looks); each row that meets fmt, with fmt's text TOLD by the authors' own Lean function (tested against real Go, not proved from fmt's source: count such statements apart). THE CARD IS WHAT COUNTS. Prove the row's statement (the work); the ties are given (YtmccicgpgcidoaaDoorTie.lean); close each card by the builder's one call (the guide's Derived/Test/ToyasCard.lean, 'card_holds'). Laid BY PROGRAM, IN A SANDBOX (cutbox-door.mjs). By AI agents, Wed Nov 11 2026. No macro, syntax, notation, axiom, sorry.
-/
import Derived.Test.YtmccicgpgcidoaaDoorRows
import GoSem.ClaimSeven
namespace Go.Proofs.YtmccicgpgcidoaaDoor
namespace Rows

/-- THE TIED CARD OF 'laws.FnExactForecastLongest'. -/
def fnExactForecastLongestCard : Claim7 := { stood := { row := fnExactForecastLongestRow, standIns := [], harness := (true, "8a1e6073e145f9017bd9a9854c8f880ed20f959cc8d8acf47a588d83e0e08c7e"), looks := false }, kinds := [], alts := [], laidByText := true, laidKinds := [.data], laidTests := true, laidLooks := .later }
def FnExactForecastLongestCardSaid : Prop := Claim7.holds Tryd.pinned (.plain (OpenSpec.ofChange fnExactForecastLongestSpec)) fnExactForecastLongestCard

/-- THE TIED CARD OF 'laws.FnExactForecastWindow'. -/
def fnExactForecastWindowCard : Claim7 := { stood := { row := fnExactForecastWindowRow, standIns := [], harness := (true, "8a1e6073e145f9017bd9a9854c8f880ed20f959cc8d8acf47a588d83e0e08c7e"), looks := false }, kinds := [], alts := [], laidByText := true, laidKinds := [.data], laidTests := true, laidLooks := .later }
def FnExactForecastWindowCardSaid : Prop := Claim7.holds Tryd.pinned (.plain (OpenSpec.ofChange fnExactForecastWindowSpec)) fnExactForecastWindowCard

/-- THE TIED CARD OF 'laws.FnWindow'. -/
def fnWindowCard : Claim7 := { stood := { row := fnWindowRow, standIns := [], harness := (true, "8a1e6073e145f9017bd9a9854c8f880ed20f959cc8d8acf47a588d83e0e08c7e"), looks := false }, kinds := [], alts := [], laidByText := true, laidKinds := [.data], laidTests := true, laidLooks := .later }
def FnWindowCardSaid : Prop := Claim7.holds Tryd.pinned (.plain (OpenSpec.ofChange fnWindowSpec)) fnWindowCard

/-- THE TIED CARD OF 'laws.FnForecastLongest'. -/
def fnForecastLongestCard : Claim7 := { stood := { row := fnForecastLongestRow, standIns := [], harness := (true, "8a1e6073e145f9017bd9a9854c8f880ed20f959cc8d8acf47a588d83e0e08c7e"), looks := false }, kinds := [], alts := [], laidByText := true, laidKinds := [.data], laidTests := true, laidLooks := .later }
def FnForecastLongestCardSaid : Prop := Claim7.holds Tryd.pinned (.plain (OpenSpec.ofChange fnForecastLongestSpec)) fnForecastLongestCard

/-- THE SECOND FORM's CARD OF 'laws.FnExactForecastLongest'. -/
def fnExactForecastLongestUptoCard : Claim7 := { stood := { row := fnExactForecastLongestUptoRow, standIns := [], harness := (true, "8a1e6073e145f9017bd9a9854c8f880ed20f959cc8d8acf47a588d83e0e08c7e"), looks := false }, kinds := [], alts := [], laidByText := true, laidKinds := [.data], laidTests := true, laidLooks := .later }
def FnExactForecastLongestUptoCardSaid : Prop := Claim7.holds Tryd.pinned (.plain (OpenSpec.upto fnExactForecastLongestSpec)) fnExactForecastLongestUptoCard

/-- THE SECOND FORM's CARD OF 'laws.FnExactForecastWindow'. -/
def fnExactForecastWindowUptoCard : Claim7 := { stood := { row := fnExactForecastWindowUptoRow, standIns := [], harness := (true, "8a1e6073e145f9017bd9a9854c8f880ed20f959cc8d8acf47a588d83e0e08c7e"), looks := false }, kinds := [], alts := [], laidByText := true, laidKinds := [.data], laidTests := true, laidLooks := .later }
def FnExactForecastWindowUptoCardSaid : Prop := Claim7.holds Tryd.pinned (.plain (OpenSpec.upto fnExactForecastWindowSpec)) fnExactForecastWindowUptoCard

/-- THE SECOND FORM's CARD OF 'laws.FnWindow'. -/
def fnWindowUptoCard : Claim7 := { stood := { row := fnWindowUptoRow, standIns := [], harness := (true, "8a1e6073e145f9017bd9a9854c8f880ed20f959cc8d8acf47a588d83e0e08c7e"), looks := false }, kinds := [], alts := [], laidByText := true, laidKinds := [.data], laidTests := true, laidLooks := .later }
def FnWindowUptoCardSaid : Prop := Claim7.holds Tryd.pinned (.plain (OpenSpec.upto fnWindowSpec)) fnWindowUptoCard

/-- THE SECOND FORM's CARD OF 'laws.FnForecastLongest'. -/
def fnForecastLongestUptoCard : Claim7 := { stood := { row := fnForecastLongestUptoRow, standIns := [], harness := (true, "8a1e6073e145f9017bd9a9854c8f880ed20f959cc8d8acf47a588d83e0e08c7e"), looks := false }, kinds := [], alts := [], laidByText := true, laidKinds := [.data], laidTests := true, laidLooks := .later }
def FnForecastLongestUptoCardSaid : Prop := Claim7.holds Tryd.pinned (.plain (OpenSpec.upto fnForecastLongestSpec)) fnForecastLongestUptoCard
end Rows
end Go.Proofs.YtmccicgpgcidoaaDoor
