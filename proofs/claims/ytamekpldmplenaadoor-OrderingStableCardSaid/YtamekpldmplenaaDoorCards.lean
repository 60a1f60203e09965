/-
  DERIVED. GIVEN WITH THE SEED: THE CARDS: each row of YtamekpldmplenaaDoorRows.lean that lists a variable, with what it lists TIED to the program's text (the seventh form; the later family's looks); each row that meets fmt, with fmt's text TOLD by the authors' own Lean function (tested against real Go, not proved from fmt's source: count such statements apart). THE CARD IS WHAT COUNTS. Prove the row's statement (the work); the ties are given (YtamekpldmplenaaDoorTie.lean); close each card by the builder's one call (the guide's Derived/Test/ToyasCard.lean, 'card_holds'). Laid BY PROGRAM, IN A SANDBOX (cutbox-door.mjs). By AI agents, Wed Nov 11 2026. No macro, syntax, notation, axiom, sorry.
-/
import Derived.Test.YtamekpldmplenaaDoorRows
import GoSem.ClaimSeven
namespace Go.Proofs.YtamekpldmplenaaDoor
namespace Rows

/-- THE TIED CARD OF 'unicodetextlaw20.OrderingChecks'. -/
def orderingChecksCard : Claim7 := { stood := { row := orderingChecksRow, standIns := [], harness := (true, "e6217433ef165204ed8c3dc7087a5048b6994ce25a3ea6be8d55fc2d1536a667"), looks := false }, kinds := [], alts := [], laidByText := true, laidKinds := [.data], laidTests := true, laidLooks := .later }
def OrderingChecksCardSaid : Prop := Claim7.holds Tryd.pinned (.plain (OpenSpec.ofChange orderingChecksSpec)) orderingChecksCard

/-- THE TIED CARD OF 'unicodetextlaw20.OrderingRuns'. -/
def orderingRunsCard : Claim7 := { stood := { row := orderingRunsRow, standIns := [], harness := (true, "e6217433ef165204ed8c3dc7087a5048b6994ce25a3ea6be8d55fc2d1536a667"), looks := false }, kinds := [], alts := [], laidByText := true, laidKinds := [.data], laidTests := true, laidLooks := .later }
def OrderingRunsCardSaid : Prop := Claim7.holds Tryd.pinned (.plain (OpenSpec.ofChange orderingRunsSpec)) orderingRunsCard

/-- THE TIED CARD OF 'unicodetextlaw20.OrderingExchanges'. -/
def orderingExchangesCard : Claim7 := { stood := { row := orderingExchangesRow, standIns := [], harness := (true, "e6217433ef165204ed8c3dc7087a5048b6994ce25a3ea6be8d55fc2d1536a667"), looks := false }, kinds := [], alts := [], laidByText := true, laidKinds := [.data], laidTests := true, laidLooks := .later }
def OrderingExchangesCardSaid : Prop := Claim7.holds Tryd.pinned (.plain (OpenSpec.ofChange orderingExchangesSpec)) orderingExchangesCard

/-- THE TIED CARD OF 'unicodetextlaw20.OrderingKeeps'. -/
def orderingKeepsCard : Claim7 := { stood := { row := orderingKeepsRow, standIns := [], harness := (true, "e6217433ef165204ed8c3dc7087a5048b6994ce25a3ea6be8d55fc2d1536a667"), looks := false }, kinds := [], alts := [], laidByText := true, laidKinds := [.data], laidTests := true, laidLooks := .later }
def OrderingKeepsCardSaid : Prop := Claim7.holds Tryd.pinned (.plain (OpenSpec.ofChange orderingKeepsSpec)) orderingKeepsCard

/-- THE TIED CARD OF 'unicodetextlaw20.OrderingStable'. -/
def orderingStableCard : Claim7 := { stood := { row := orderingStableRow, standIns := [], harness := (true, "e6217433ef165204ed8c3dc7087a5048b6994ce25a3ea6be8d55fc2d1536a667"), looks := false }, kinds := [], alts := [], laidByText := true, laidKinds := [.data], laidTests := true, laidLooks := .later }
def OrderingStableCardSaid : Prop := Claim7.holds Tryd.pinned (.plain (OpenSpec.ofChange orderingStableSpec)) orderingStableCard

/-- THE TIED CARD OF 'unicodetextlaw20.OrderingClasses'. -/
def orderingClassesCard : Claim7 := { stood := { row := orderingClassesRow, standIns := [], harness := (true, "e6217433ef165204ed8c3dc7087a5048b6994ce25a3ea6be8d55fc2d1536a667"), looks := false }, kinds := [], alts := [], laidByText := true, laidKinds := [.data], laidTests := true, laidLooks := .later }
def OrderingClassesCardSaid : Prop := Claim7.holds Tryd.pinned (.plain (OpenSpec.ofChange orderingClassesSpec)) orderingClassesCard

/-- THE TIED CARD OF 'unicodetextlaw20.OrderingJoins'. -/
def orderingJoinsCard : Claim7 := { stood := { row := orderingJoinsRow, standIns := [], harness := (true, "e6217433ef165204ed8c3dc7087a5048b6994ce25a3ea6be8d55fc2d1536a667"), looks := false }, kinds := [], alts := [], laidByText := true, laidKinds := [.data], laidTests := true, laidLooks := .later }
def OrderingJoinsCardSaid : Prop := Claim7.holds Tryd.pinned (.plain (OpenSpec.ofChange orderingJoinsSpec)) orderingJoinsCard

/-- THE TIED CARD OF 'unicodetextlaw20.OrderingSorts'. -/
def orderingSortsCard : Claim7 := { stood := { row := orderingSortsRow, standIns := [], harness := (true, "e6217433ef165204ed8c3dc7087a5048b6994ce25a3ea6be8d55fc2d1536a667"), looks := false }, kinds := [], alts := [], laidByText := true, laidKinds := [.data], laidTests := true, laidLooks := .later }
def OrderingSortsCardSaid : Prop := Claim7.holds Tryd.pinned (.plain (OpenSpec.ofChange orderingSortsSpec)) orderingSortsCard

/-- THE TIED CARD OF 'unicodetextlaw20.OrderingAgain'. -/
def orderingAgainCard : Claim7 := { stood := { row := orderingAgainRow, standIns := [], harness := (true, "e6217433ef165204ed8c3dc7087a5048b6994ce25a3ea6be8d55fc2d1536a667"), looks := false }, kinds := [], alts := [], laidByText := true, laidKinds := [.data], laidTests := true, laidLooks := .later }
def OrderingAgainCardSaid : Prop := Claim7.holds Tryd.pinned (.plain (OpenSpec.ofChange orderingAgainSpec)) orderingAgainCard

/-- THE SECOND FORM's CARD OF 'unicodetextlaw20.OrderingChecks'. -/
def orderingChecksUptoCard : Claim7 := { stood := { row := orderingChecksUptoRow, standIns := [], harness := (true, "e6217433ef165204ed8c3dc7087a5048b6994ce25a3ea6be8d55fc2d1536a667"), looks := false }, kinds := [], alts := [], laidByText := true, laidKinds := [.data], laidTests := true, laidLooks := .later }
def OrderingChecksUptoCardSaid : Prop := Claim7.holds Tryd.pinned (.plain (OpenSpec.upto orderingChecksSpec)) orderingChecksUptoCard

/-- THE SECOND FORM's CARD OF 'unicodetextlaw20.OrderingRuns'. -/
def orderingRunsUptoCard : Claim7 := { stood := { row := orderingRunsUptoRow, standIns := [], harness := (true, "e6217433ef165204ed8c3dc7087a5048b6994ce25a3ea6be8d55fc2d1536a667"), looks := false }, kinds := [], alts := [], laidByText := true, laidKinds := [.data], laidTests := true, laidLooks := .later }
def OrderingRunsUptoCardSaid : Prop := Claim7.holds Tryd.pinned (.plain (OpenSpec.upto orderingRunsSpec)) orderingRunsUptoCard

/-- THE SECOND FORM's CARD OF 'unicodetextlaw20.OrderingExchanges'. -/
def orderingExchangesUptoCard : Claim7 := { stood := { row := orderingExchangesUptoRow, standIns := [], harness := (true, "e6217433ef165204ed8c3dc7087a5048b6994ce25a3ea6be8d55fc2d1536a667"), looks := false }, kinds := [], alts := [], laidByText := true, laidKinds := [.data], laidTests := true, laidLooks := .later }
def OrderingExchangesUptoCardSaid : Prop := Claim7.holds Tryd.pinned (.plain (OpenSpec.upto orderingExchangesSpec)) orderingExchangesUptoCard

/-- THE SECOND FORM's CARD OF 'unicodetextlaw20.OrderingKeeps'. -/
def orderingKeepsUptoCard : Claim7 := { stood := { row := orderingKeepsUptoRow, standIns := [], harness := (true, "e6217433ef165204ed8c3dc7087a5048b6994ce25a3ea6be8d55fc2d1536a667"), looks := false }, kinds := [], alts := [], laidByText := true, laidKinds := [.data], laidTests := true, laidLooks := .later }
def OrderingKeepsUptoCardSaid : Prop := Claim7.holds Tryd.pinned (.plain (OpenSpec.upto orderingKeepsSpec)) orderingKeepsUptoCard

/-- THE SECOND FORM's CARD OF 'unicodetextlaw20.OrderingStable'. -/
def orderingStableUptoCard : Claim7 := { stood := { row := orderingStableUptoRow, standIns := [], harness := (true, "e6217433ef165204ed8c3dc7087a5048b6994ce25a3ea6be8d55fc2d1536a667"), looks := false }, kinds := [], alts := [], laidByText := true, laidKinds := [.data], laidTests := true, laidLooks := .later }
def OrderingStableUptoCardSaid : Prop := Claim7.holds Tryd.pinned (.plain (OpenSpec.upto orderingStableSpec)) orderingStableUptoCard

/-- THE SECOND FORM's CARD OF 'unicodetextlaw20.OrderingClasses'. -/
def orderingClassesUptoCard : Claim7 := { stood := { row := orderingClassesUptoRow, standIns := [], harness := (true, "e6217433ef165204ed8c3dc7087a5048b6994ce25a3ea6be8d55fc2d1536a667"), looks := false }, kinds := [], alts := [], laidByText := true, laidKinds := [.data], laidTests := true, laidLooks := .later }
def OrderingClassesUptoCardSaid : Prop := Claim7.holds Tryd.pinned (.plain (OpenSpec.upto orderingClassesSpec)) orderingClassesUptoCard

/-- THE SECOND FORM's CARD OF 'unicodetextlaw20.OrderingJoins'. -/
def orderingJoinsUptoCard : Claim7 := { stood := { row := orderingJoinsUptoRow, standIns := [], harness := (true, "e6217433ef165204ed8c3dc7087a5048b6994ce25a3ea6be8d55fc2d1536a667"), looks := false }, kinds := [], alts := [], laidByText := true, laidKinds := [.data], laidTests := true, laidLooks := .later }
def OrderingJoinsUptoCardSaid : Prop := Claim7.holds Tryd.pinned (.plain (OpenSpec.upto orderingJoinsSpec)) orderingJoinsUptoCard

/-- THE SECOND FORM's CARD OF 'unicodetextlaw20.OrderingSorts'. -/
def orderingSortsUptoCard : Claim7 := { stood := { row := orderingSortsUptoRow, standIns := [], harness := (true, "e6217433ef165204ed8c3dc7087a5048b6994ce25a3ea6be8d55fc2d1536a667"), looks := false }, kinds := [], alts := [], laidByText := true, laidKinds := [.data], laidTests := true, laidLooks := .later }
def OrderingSortsUptoCardSaid : Prop := Claim7.holds Tryd.pinned (.plain (OpenSpec.upto orderingSortsSpec)) orderingSortsUptoCard

/-- THE SECOND FORM's CARD OF 'unicodetextlaw20.OrderingAgain'. -/
def orderingAgainUptoCard : Claim7 := { stood := { row := orderingAgainUptoRow, standIns := [], harness := (true, "e6217433ef165204ed8c3dc7087a5048b6994ce25a3ea6be8d55fc2d1536a667"), looks := false }, kinds := [], alts := [], laidByText := true, laidKinds := [.data], laidTests := true, laidLooks := .later }
def OrderingAgainUptoCardSaid : Prop := Claim7.holds Tryd.pinned (.plain (OpenSpec.upto orderingAgainSpec)) orderingAgainUptoCard
end Rows
end Go.Proofs.YtamekpldmplenaaDoor
