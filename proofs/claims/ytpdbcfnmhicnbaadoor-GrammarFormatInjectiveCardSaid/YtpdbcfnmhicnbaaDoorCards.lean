/-
  DERIVED. GIVEN WITH THE SEED: THE CARDS: each row of YtpdbcfnmhicnbaaDoorRows.lean that lists a variable, with what it lists TIED to the program's text (the seventh form; the later family's looks); each row that meets fmt, with fmt's text TOLD by the authors' own Lean function (tested against real Go, not proved from fmt's source: count such statements apart). THE CARD IS WHAT COUNTS. Prove the row's statement (the work); the ties are given (YtpdbcfnmhicnbaaDoorTie.lean); close each card by the builder's one call (the guide's Derived/Test/ToyasCard.lean, 'card_holds'). Laid BY PROGRAM, IN A SANDBOX (cutbox-door.mjs). By AI agents, Wed Nov 11 2026. No macro, syntax, notation, axiom, sorry.
-/
import Derived.Test.YtpdbcfnmhicnbaaDoorRows
import GoSem.ClaimSeven
namespace Go.Proofs.YtpdbcfnmhicnbaaDoor
namespace Rows

/-- THE TIED CARD OF 'emendatelaw18.GrammarValidMatchesReference'. -/
def grammarValidMatchesReferenceCard : Claim7 := { stood := { row := grammarValidMatchesReferenceRow, standIns := [], harness := (true, "e5d73f8783e5e645730073c6bf9d5c4cd047ac93087804af33e8c1f9fb058f0d"), looks := false }, kinds := [], alts := [], laidByText := true, laidKinds := [.data, .data, .data], laidTests := true, laidLooks := .later }
def GrammarValidMatchesReferenceCardSaid : Prop := Claim7.holds Tryd.pinned (.plain (OpenSpec.ofChange grammarValidMatchesReferenceSpec)) grammarValidMatchesReferenceCard

/-- THE TIED CARD OF 'emendatelaw18.GrammarEqualMatchesReference'. -/
def grammarEqualMatchesReferenceCard : Claim7 := { stood := { row := grammarEqualMatchesReferenceRow, standIns := [], harness := (true, "e5d73f8783e5e645730073c6bf9d5c4cd047ac93087804af33e8c1f9fb058f0d"), looks := false }, kinds := [], alts := [], laidByText := true, laidKinds := [.data, .data, .data], laidTests := true, laidLooks := .later }
def GrammarEqualMatchesReferenceCardSaid : Prop := Claim7.holds Tryd.pinned (.plain (OpenSpec.ofChange grammarEqualMatchesReferenceSpec)) grammarEqualMatchesReferenceCard

/-- THE TIED CARD OF 'emendatelaw18.GrammarFormatMatchesReference'. -/
def grammarFormatMatchesReferenceCard : Claim7 := { stood := { row := grammarFormatMatchesReferenceRow, standIns := [], harness := (true, "e5d73f8783e5e645730073c6bf9d5c4cd047ac93087804af33e8c1f9fb058f0d"), looks := false }, kinds := [], alts := [], laidByText := true, laidKinds := [.data, .data, .data], laidTests := true, laidLooks := .later }
def GrammarFormatMatchesReferenceCardSaid : Prop := Claim7.holds Tryd.pinned (.plain (OpenSpec.ofChange grammarFormatMatchesReferenceSpec)) grammarFormatMatchesReferenceCard

/-- THE TIED CARD OF 'emendatelaw18.GrammarFormatInjective'. -/
def grammarFormatInjectiveCard : Claim7 := { stood := { row := grammarFormatInjectiveRow, standIns := [], harness := (true, "e5d73f8783e5e645730073c6bf9d5c4cd047ac93087804af33e8c1f9fb058f0d"), looks := false }, kinds := [], alts := [], laidByText := true, laidKinds := [.data, .data, .data], laidTests := true, laidLooks := .later }
def GrammarFormatInjectiveCardSaid : Prop := Claim7.holds Tryd.pinned (.plain (OpenSpec.ofChange grammarFormatInjectiveSpec)) grammarFormatInjectiveCard

/-- THE TIED CARD OF 'emendatelaw18.GrammarSymbolInverse'. -/
def grammarSymbolInverseCard : Claim7 := { stood := { row := grammarSymbolInverseRow, standIns := [], harness := (true, "e5d73f8783e5e645730073c6bf9d5c4cd047ac93087804af33e8c1f9fb058f0d"), looks := false }, kinds := [], alts := [], laidByText := true, laidKinds := [.data, .data, .data], laidTests := true, laidLooks := .later }
def GrammarSymbolInverseCardSaid : Prop := Claim7.holds Tryd.pinned (.plain (OpenSpec.ofChange grammarSymbolInverseSpec)) grammarSymbolInverseCard

/-- THE TIED CARD OF 'emendatelaw18.GrammarRulesOfPartition'. -/
def grammarRulesOfPartitionCard : Claim7 := { stood := { row := grammarRulesOfPartitionRow, standIns := [], harness := (true, "e5d73f8783e5e645730073c6bf9d5c4cd047ac93087804af33e8c1f9fb058f0d"), looks := false }, kinds := [], alts := [], laidByText := true, laidKinds := [.data, .data, .data], laidTests := true, laidLooks := .later }
def GrammarRulesOfPartitionCardSaid : Prop := Claim7.holds Tryd.pinned (.plain (OpenSpec.ofChange grammarRulesOfPartitionSpec)) grammarRulesOfPartitionCard

/-- THE TIED CARD OF 'emendatelaw18.GrammarRemoveRule'. -/
def grammarRemoveRuleCard : Claim7 := { stood := { row := grammarRemoveRuleRow, standIns := [], harness := (true, "e5d73f8783e5e645730073c6bf9d5c4cd047ac93087804af33e8c1f9fb058f0d"), looks := false }, kinds := [], alts := [], laidByText := true, laidKinds := [.data, .data, .data], laidTests := true, laidLooks := .later }
def GrammarRemoveRuleCardSaid : Prop := Claim7.holds Tryd.pinned (.plain (OpenSpec.ofChange grammarRemoveRuleSpec)) grammarRemoveRuleCard

/-- THE SECOND FORM's CARD OF 'emendatelaw18.GrammarValidMatchesReference'. -/
def grammarValidMatchesReferenceUptoCard : Claim7 := { stood := { row := grammarValidMatchesReferenceUptoRow, standIns := [], harness := (true, "e5d73f8783e5e645730073c6bf9d5c4cd047ac93087804af33e8c1f9fb058f0d"), looks := false }, kinds := [], alts := [], laidByText := true, laidKinds := [.data, .data, .data], laidTests := true, laidLooks := .later }
def GrammarValidMatchesReferenceUptoCardSaid : Prop := Claim7.holds Tryd.pinned (.plain (OpenSpec.upto grammarValidMatchesReferenceSpec)) grammarValidMatchesReferenceUptoCard

/-- THE SECOND FORM's CARD OF 'emendatelaw18.GrammarEqualMatchesReference'. -/
def grammarEqualMatchesReferenceUptoCard : Claim7 := { stood := { row := grammarEqualMatchesReferenceUptoRow, standIns := [], harness := (true, "e5d73f8783e5e645730073c6bf9d5c4cd047ac93087804af33e8c1f9fb058f0d"), looks := false }, kinds := [], alts := [], laidByText := true, laidKinds := [.data, .data, .data], laidTests := true, laidLooks := .later }
def GrammarEqualMatchesReferenceUptoCardSaid : Prop := Claim7.holds Tryd.pinned (.plain (OpenSpec.upto grammarEqualMatchesReferenceSpec)) grammarEqualMatchesReferenceUptoCard

/-- THE SECOND FORM's CARD OF 'emendatelaw18.GrammarFormatMatchesReference'. -/
def grammarFormatMatchesReferenceUptoCard : Claim7 := { stood := { row := grammarFormatMatchesReferenceUptoRow, standIns := [], harness := (true, "e5d73f8783e5e645730073c6bf9d5c4cd047ac93087804af33e8c1f9fb058f0d"), looks := false }, kinds := [], alts := [], laidByText := true, laidKinds := [.data, .data, .data], laidTests := true, laidLooks := .later }
def GrammarFormatMatchesReferenceUptoCardSaid : Prop := Claim7.holds Tryd.pinned (.plain (OpenSpec.upto grammarFormatMatchesReferenceSpec)) grammarFormatMatchesReferenceUptoCard

/-- THE SECOND FORM's CARD OF 'emendatelaw18.GrammarFormatInjective'. -/
def grammarFormatInjectiveUptoCard : Claim7 := { stood := { row := grammarFormatInjectiveUptoRow, standIns := [], harness := (true, "e5d73f8783e5e645730073c6bf9d5c4cd047ac93087804af33e8c1f9fb058f0d"), looks := false }, kinds := [], alts := [], laidByText := true, laidKinds := [.data, .data, .data], laidTests := true, laidLooks := .later }
def GrammarFormatInjectiveUptoCardSaid : Prop := Claim7.holds Tryd.pinned (.plain (OpenSpec.upto grammarFormatInjectiveSpec)) grammarFormatInjectiveUptoCard

/-- THE SECOND FORM's CARD OF 'emendatelaw18.GrammarSymbolInverse'. -/
def grammarSymbolInverseUptoCard : Claim7 := { stood := { row := grammarSymbolInverseUptoRow, standIns := [], harness := (true, "e5d73f8783e5e645730073c6bf9d5c4cd047ac93087804af33e8c1f9fb058f0d"), looks := false }, kinds := [], alts := [], laidByText := true, laidKinds := [.data, .data, .data], laidTests := true, laidLooks := .later }
def GrammarSymbolInverseUptoCardSaid : Prop := Claim7.holds Tryd.pinned (.plain (OpenSpec.upto grammarSymbolInverseSpec)) grammarSymbolInverseUptoCard

/-- THE SECOND FORM's CARD OF 'emendatelaw18.GrammarRulesOfPartition'. -/
def grammarRulesOfPartitionUptoCard : Claim7 := { stood := { row := grammarRulesOfPartitionUptoRow, standIns := [], harness := (true, "e5d73f8783e5e645730073c6bf9d5c4cd047ac93087804af33e8c1f9fb058f0d"), looks := false }, kinds := [], alts := [], laidByText := true, laidKinds := [.data, .data, .data], laidTests := true, laidLooks := .later }
def GrammarRulesOfPartitionUptoCardSaid : Prop := Claim7.holds Tryd.pinned (.plain (OpenSpec.upto grammarRulesOfPartitionSpec)) grammarRulesOfPartitionUptoCard

/-- THE SECOND FORM's CARD OF 'emendatelaw18.GrammarRemoveRule'. -/
def grammarRemoveRuleUptoCard : Claim7 := { stood := { row := grammarRemoveRuleUptoRow, standIns := [], harness := (true, "e5d73f8783e5e645730073c6bf9d5c4cd047ac93087804af33e8c1f9fb058f0d"), looks := false }, kinds := [], alts := [], laidByText := true, laidKinds := [.data, .data, .data], laidTests := true, laidLooks := .later }
def GrammarRemoveRuleUptoCardSaid : Prop := Claim7.holds Tryd.pinned (.plain (OpenSpec.upto grammarRemoveRuleSpec)) grammarRemoveRuleUptoCard
end Rows
end Go.Proofs.YtpdbcfnmhicnbaaDoor
