/-
  DERIVED. GIVEN WITH THE SEED: THE CARDS: each row of YtpldkfbglfcidaaDoorRows.lean that lists a variable, with what it lists TIED to the program's text (the seventh form; the later family's looks); each row that meets fmt, with fmt's text TOLD by the authors' own Lean function (tested against real Go, not proved from fmt's source: count such statements apart). THE CARD IS WHAT COUNTS. Prove the row's statement (the work); the ties are given (YtpldkfbglfcidaaDoorTie.lean); close each card by the builder's one call (the guide's Derived/Test/ToyasCard.lean, 'card_holds'). Laid BY PROGRAM, IN A SANDBOX (cutbox-door.mjs). By AI agents, Wed Nov 11 2026. No macro, syntax, notation, axiom, sorry.
-/
import Derived.Test.YtpldkfbglfcidaaDoorRows
import GoSem.ClaimSeven
namespace Go.Proofs.YtpldkfbglfcidaaDoor
namespace Rows

/-- THE TIED CARD OF 'laws.FnLetters'. -/
def fnLettersCard : Claim7 := { stood := { row := fnLettersRow, standIns := [], harness := (true, "bbf6faba0a4da54cb8016002ecce0239a9574ba91e518052c241823ef7412750"), looks := false }, kinds := [], alts := [], laidByText := true, laidKinds := [.data, .pinned], laidTests := true, laidLooks := .later }
def FnLettersCardSaid : Prop := Claim7.holds Tryd.pinned (.plain (OpenSpec.ofChange fnLettersSpec)) fnLettersCard

/-- THE TIED CARD OF 'laws.FnExactSignalValid'. -/
def fnExactSignalValidCard : Claim7 := { stood := { row := fnExactSignalValidRow, standIns := [], harness := (true, "bbf6faba0a4da54cb8016002ecce0239a9574ba91e518052c241823ef7412750"), looks := false }, kinds := [], alts := [], laidByText := true, laidKinds := [.data, .pinned], laidTests := true, laidLooks := .later }
def FnExactSignalValidCardSaid : Prop := Claim7.holds Tryd.pinned (.plain (OpenSpec.ofChange fnExactSignalValidSpec)) fnExactSignalValidCard

/-- THE TIED CARD OF 'laws.FnExactSignalFar'. -/
def fnExactSignalFarCard : Claim7 := { stood := { row := fnExactSignalFarRow, standIns := [], harness := (true, "bbf6faba0a4da54cb8016002ecce0239a9574ba91e518052c241823ef7412750"), looks := false }, kinds := [], alts := [], laidByText := true, laidKinds := [.data, .pinned], laidTests := true, laidLooks := .later }
def FnExactSignalFarCardSaid : Prop := Claim7.holds Tryd.pinned (.plain (OpenSpec.ofChange fnExactSignalFarSpec)) fnExactSignalFarCard

/-- THE TIED CARD OF 'laws.FnExactSignalVote'. -/
def fnExactSignalVoteCard : Claim7 := { stood := { row := fnExactSignalVoteRow, standIns := [], harness := (true, "bbf6faba0a4da54cb8016002ecce0239a9574ba91e518052c241823ef7412750"), looks := false }, kinds := [], alts := [], laidByText := true, laidKinds := [.data, .pinned], laidTests := true, laidLooks := .later }
def FnExactSignalVoteCardSaid : Prop := Claim7.holds Tryd.pinned (.plain (OpenSpec.ofChange fnExactSignalVoteSpec)) fnExactSignalVoteCard

/-- THE TIED CARD OF 'laws.FnExactSignalDrift'. -/
def fnExactSignalDriftCard : Claim7 := { stood := { row := fnExactSignalDriftRow, standIns := [], harness := (true, "bbf6faba0a4da54cb8016002ecce0239a9574ba91e518052c241823ef7412750"), looks := false }, kinds := [], alts := [], laidByText := true, laidKinds := [.data, .pinned], laidTests := true, laidLooks := .later }
def FnExactSignalDriftCardSaid : Prop := Claim7.holds Tryd.pinned (.plain (OpenSpec.ofChange fnExactSignalDriftSpec)) fnExactSignalDriftCard

/-- THE TIED CARD OF 'laws.FnExactSignalWide'. -/
def fnExactSignalWideCard : Claim7 := { stood := { row := fnExactSignalWideRow, standIns := [], harness := (true, "bbf6faba0a4da54cb8016002ecce0239a9574ba91e518052c241823ef7412750"), looks := false }, kinds := [], alts := [], laidByText := true, laidKinds := [.data, .pinned], laidTests := true, laidLooks := .later }
def FnExactSignalWideCardSaid : Prop := Claim7.holds Tryd.pinned (.plain (OpenSpec.ofChange fnExactSignalWideSpec)) fnExactSignalWideCard

/-- THE TIED CARD OF 'laws.FnSignalVote'. -/
def fnSignalVoteCard : Claim7 := { stood := { row := fnSignalVoteRow, standIns := [], harness := (true, "bbf6faba0a4da54cb8016002ecce0239a9574ba91e518052c241823ef7412750"), looks := false }, kinds := [], alts := [], laidByText := true, laidKinds := [.data, .pinned], laidTests := true, laidLooks := .later }
def FnSignalVoteCardSaid : Prop := Claim7.holds Tryd.pinned (.plain (OpenSpec.ofChange fnSignalVoteSpec)) fnSignalVoteCard

/-- THE TIED CARD OF 'laws.FnExactSignalLevel'. -/
def fnExactSignalLevelCard : Claim7 := { stood := { row := fnExactSignalLevelRow, standIns := [], harness := (true, "bbf6faba0a4da54cb8016002ecce0239a9574ba91e518052c241823ef7412750"), looks := false }, kinds := [], alts := [], laidByText := true, laidKinds := [.data, .pinned], laidTests := true, laidLooks := .later }
def FnExactSignalLevelCardSaid : Prop := Claim7.holds Tryd.pinned (.plain (OpenSpec.ofChange fnExactSignalLevelSpec)) fnExactSignalLevelCard

/-- THE TIED CARD OF 'laws.FnExactSignalRead'. -/
def fnExactSignalReadCard : Claim7 := { stood := { row := fnExactSignalReadRow, standIns := [], harness := (true, "bbf6faba0a4da54cb8016002ecce0239a9574ba91e518052c241823ef7412750"), looks := false }, kinds := [], alts := [], laidByText := true, laidKinds := [.data, .pinned], laidTests := true, laidLooks := .later }
def FnExactSignalReadCardSaid : Prop := Claim7.holds Tryd.pinned (.plain (OpenSpec.ofChange fnExactSignalReadSpec)) fnExactSignalReadCard

/-- THE SECOND FORM's CARD OF 'laws.FnLetters'. -/
def fnLettersUptoCard : Claim7 := { stood := { row := fnLettersUptoRow, standIns := [], harness := (true, "bbf6faba0a4da54cb8016002ecce0239a9574ba91e518052c241823ef7412750"), looks := false }, kinds := [], alts := [], laidByText := true, laidKinds := [.data, .pinned], laidTests := true, laidLooks := .later }
def FnLettersUptoCardSaid : Prop := Claim7.holds Tryd.pinned (.plain (OpenSpec.upto fnLettersSpec)) fnLettersUptoCard

/-- THE SECOND FORM's CARD OF 'laws.FnExactSignalValid'. -/
def fnExactSignalValidUptoCard : Claim7 := { stood := { row := fnExactSignalValidUptoRow, standIns := [], harness := (true, "bbf6faba0a4da54cb8016002ecce0239a9574ba91e518052c241823ef7412750"), looks := false }, kinds := [], alts := [], laidByText := true, laidKinds := [.data, .pinned], laidTests := true, laidLooks := .later }
def FnExactSignalValidUptoCardSaid : Prop := Claim7.holds Tryd.pinned (.plain (OpenSpec.upto fnExactSignalValidSpec)) fnExactSignalValidUptoCard

/-- THE SECOND FORM's CARD OF 'laws.FnExactSignalFar'. -/
def fnExactSignalFarUptoCard : Claim7 := { stood := { row := fnExactSignalFarUptoRow, standIns := [], harness := (true, "bbf6faba0a4da54cb8016002ecce0239a9574ba91e518052c241823ef7412750"), looks := false }, kinds := [], alts := [], laidByText := true, laidKinds := [.data, .pinned], laidTests := true, laidLooks := .later }
def FnExactSignalFarUptoCardSaid : Prop := Claim7.holds Tryd.pinned (.plain (OpenSpec.upto fnExactSignalFarSpec)) fnExactSignalFarUptoCard

/-- THE SECOND FORM's CARD OF 'laws.FnExactSignalVote'. -/
def fnExactSignalVoteUptoCard : Claim7 := { stood := { row := fnExactSignalVoteUptoRow, standIns := [], harness := (true, "bbf6faba0a4da54cb8016002ecce0239a9574ba91e518052c241823ef7412750"), looks := false }, kinds := [], alts := [], laidByText := true, laidKinds := [.data, .pinned], laidTests := true, laidLooks := .later }
def FnExactSignalVoteUptoCardSaid : Prop := Claim7.holds Tryd.pinned (.plain (OpenSpec.upto fnExactSignalVoteSpec)) fnExactSignalVoteUptoCard

/-- THE SECOND FORM's CARD OF 'laws.FnExactSignalDrift'. -/
def fnExactSignalDriftUptoCard : Claim7 := { stood := { row := fnExactSignalDriftUptoRow, standIns := [], harness := (true, "bbf6faba0a4da54cb8016002ecce0239a9574ba91e518052c241823ef7412750"), looks := false }, kinds := [], alts := [], laidByText := true, laidKinds := [.data, .pinned], laidTests := true, laidLooks := .later }
def FnExactSignalDriftUptoCardSaid : Prop := Claim7.holds Tryd.pinned (.plain (OpenSpec.upto fnExactSignalDriftSpec)) fnExactSignalDriftUptoCard

/-- THE SECOND FORM's CARD OF 'laws.FnExactSignalWide'. -/
def fnExactSignalWideUptoCard : Claim7 := { stood := { row := fnExactSignalWideUptoRow, standIns := [], harness := (true, "bbf6faba0a4da54cb8016002ecce0239a9574ba91e518052c241823ef7412750"), looks := false }, kinds := [], alts := [], laidByText := true, laidKinds := [.data, .pinned], laidTests := true, laidLooks := .later }
def FnExactSignalWideUptoCardSaid : Prop := Claim7.holds Tryd.pinned (.plain (OpenSpec.upto fnExactSignalWideSpec)) fnExactSignalWideUptoCard

/-- THE SECOND FORM's CARD OF 'laws.FnSignalVote'. -/
def fnSignalVoteUptoCard : Claim7 := { stood := { row := fnSignalVoteUptoRow, standIns := [], harness := (true, "bbf6faba0a4da54cb8016002ecce0239a9574ba91e518052c241823ef7412750"), looks := false }, kinds := [], alts := [], laidByText := true, laidKinds := [.data, .pinned], laidTests := true, laidLooks := .later }
def FnSignalVoteUptoCardSaid : Prop := Claim7.holds Tryd.pinned (.plain (OpenSpec.upto fnSignalVoteSpec)) fnSignalVoteUptoCard

/-- THE SECOND FORM's CARD OF 'laws.FnExactSignalLevel'. -/
def fnExactSignalLevelUptoCard : Claim7 := { stood := { row := fnExactSignalLevelUptoRow, standIns := [], harness := (true, "bbf6faba0a4da54cb8016002ecce0239a9574ba91e518052c241823ef7412750"), looks := false }, kinds := [], alts := [], laidByText := true, laidKinds := [.data, .pinned], laidTests := true, laidLooks := .later }
def FnExactSignalLevelUptoCardSaid : Prop := Claim7.holds Tryd.pinned (.plain (OpenSpec.upto fnExactSignalLevelSpec)) fnExactSignalLevelUptoCard

/-- THE SECOND FORM's CARD OF 'laws.FnExactSignalRead'. -/
def fnExactSignalReadUptoCard : Claim7 := { stood := { row := fnExactSignalReadUptoRow, standIns := [], harness := (true, "bbf6faba0a4da54cb8016002ecce0239a9574ba91e518052c241823ef7412750"), looks := false }, kinds := [], alts := [], laidByText := true, laidKinds := [.data, .pinned], laidTests := true, laidLooks := .later }
def FnExactSignalReadUptoCardSaid : Prop := Claim7.holds Tryd.pinned (.plain (OpenSpec.upto fnExactSignalReadSpec)) fnExactSignalReadUptoCard
end Rows
end Go.Proofs.YtpldkfbglfcidaaDoor
