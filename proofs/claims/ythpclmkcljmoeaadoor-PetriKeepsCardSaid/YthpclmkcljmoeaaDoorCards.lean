/-
  DERIVED. GIVEN WITH THE SEED: THE CARDS: each row of YthpclmkcljmoeaaDoorRows.lean that lists a variable, with what it lists TIED to the program's text (the seventh form; the later family's looks); each row that meets fmt, with fmt's text TOLD by the authors' own Lean function (tested against real Go, not proved from fmt's source: count such statements apart). THE CARD IS WHAT COUNTS. Prove the row's statement (the work); the ties are given (YthpclmkcljmoeaaDoorTie.lean); close each card by the builder's one call (the guide's Derived/Test/ToyasCard.lean, 'card_holds'). Laid BY PROGRAM, IN A SANDBOX (cutbox-door.mjs). By AI agents, Wed Nov 11 2026. No macro, syntax, notation, axiom, sorry.
-/
import Derived.Test.YthpclmkcljmoeaaDoorRows
import GoSem.ClaimSeven
namespace Go.Proofs.YthpclmkcljmoeaaDoor
namespace Rows

/-- THE TIED CARD OF 'taquinlaw18.PetriStuck'. -/
def petriStuckCard : Claim7 := { stood := { row := petriStuckRow, standIns := [], harness := (true, "b121689a6f61c0fb2c91ae9805a8536ba1f348764202094c46b223d1bff97f4a"), looks := false }, kinds := [], alts := [], laidByText := true, laidKinds := [.data], laidTests := true, laidLooks := .later }
def PetriStuckCardSaid : Prop := Claim7.holds Tryd.pinned (.plain (OpenSpec.ofChange petriStuckSpec)) petriStuckCard

/-- THE TIED CARD OF 'taquinlaw18.PetriKeeps'. -/
def petriKeepsCard : Claim7 := { stood := { row := petriKeepsRow, standIns := [], harness := (true, "b121689a6f61c0fb2c91ae9805a8536ba1f348764202094c46b223d1bff97f4a"), looks := false }, kinds := [], alts := [], laidByText := true, laidKinds := [.data], laidTests := true, laidLooks := .later }
def PetriKeepsCardSaid : Prop := Claim7.holds Tryd.pinned (.plain (OpenSpec.ofChange petriKeepsSpec)) petriKeepsCard

/-- THE TIED CARD OF 'taquinlaw18.PetriLeast'. -/
def petriLeastCard : Claim7 := { stood := { row := petriLeastRow, standIns := [], harness := (true, "b121689a6f61c0fb2c91ae9805a8536ba1f348764202094c46b223d1bff97f4a"), looks := false }, kinds := [], alts := [], laidByText := true, laidKinds := [.data], laidTests := true, laidLooks := .later }
def PetriLeastCardSaid : Prop := Claim7.holds Tryd.pinned (.plain (OpenSpec.ofChange petriLeastSpec)) petriLeastCard

/-- THE TIED CARD OF 'taquinlaw18.PetriUnions'. -/
def petriUnionsCard : Claim7 := { stood := { row := petriUnionsRow, standIns := [], harness := (true, "b121689a6f61c0fb2c91ae9805a8536ba1f348764202094c46b223d1bff97f4a"), looks := false }, kinds := [], alts := [], laidByText := true, laidKinds := [.data], laidTests := true, laidLooks := .later }
def PetriUnionsCardSaid : Prop := Claim7.holds Tryd.pinned (.plain (OpenSpec.ofChange petriUnionsSpec)) petriUnionsCard

/-- THE TIED CARD OF 'taquinlaw18.PetriWeights'. -/
def petriWeightsCard : Claim7 := { stood := { row := petriWeightsRow, standIns := [], harness := (true, "b121689a6f61c0fb2c91ae9805a8536ba1f348764202094c46b223d1bff97f4a"), looks := false }, kinds := [], alts := [], laidByText := true, laidKinds := [.data], laidTests := true, laidLooks := .later }
def PetriWeightsCardSaid : Prop := Claim7.holds Tryd.pinned (.plain (OpenSpec.ofChange petriWeightsSpec)) petriWeightsCard

/-- THE SECOND FORM's CARD OF 'taquinlaw18.PetriStuck'. -/
def petriStuckUptoCard : Claim7 := { stood := { row := petriStuckUptoRow, standIns := [], harness := (true, "b121689a6f61c0fb2c91ae9805a8536ba1f348764202094c46b223d1bff97f4a"), looks := false }, kinds := [], alts := [], laidByText := true, laidKinds := [.data], laidTests := true, laidLooks := .later }
def PetriStuckUptoCardSaid : Prop := Claim7.holds Tryd.pinned (.plain (OpenSpec.upto petriStuckSpec)) petriStuckUptoCard

/-- THE SECOND FORM's CARD OF 'taquinlaw18.PetriKeeps'. -/
def petriKeepsUptoCard : Claim7 := { stood := { row := petriKeepsUptoRow, standIns := [], harness := (true, "b121689a6f61c0fb2c91ae9805a8536ba1f348764202094c46b223d1bff97f4a"), looks := false }, kinds := [], alts := [], laidByText := true, laidKinds := [.data], laidTests := true, laidLooks := .later }
def PetriKeepsUptoCardSaid : Prop := Claim7.holds Tryd.pinned (.plain (OpenSpec.upto petriKeepsSpec)) petriKeepsUptoCard

/-- THE SECOND FORM's CARD OF 'taquinlaw18.PetriLeast'. -/
def petriLeastUptoCard : Claim7 := { stood := { row := petriLeastUptoRow, standIns := [], harness := (true, "b121689a6f61c0fb2c91ae9805a8536ba1f348764202094c46b223d1bff97f4a"), looks := false }, kinds := [], alts := [], laidByText := true, laidKinds := [.data], laidTests := true, laidLooks := .later }
def PetriLeastUptoCardSaid : Prop := Claim7.holds Tryd.pinned (.plain (OpenSpec.upto petriLeastSpec)) petriLeastUptoCard

/-- THE SECOND FORM's CARD OF 'taquinlaw18.PetriUnions'. -/
def petriUnionsUptoCard : Claim7 := { stood := { row := petriUnionsUptoRow, standIns := [], harness := (true, "b121689a6f61c0fb2c91ae9805a8536ba1f348764202094c46b223d1bff97f4a"), looks := false }, kinds := [], alts := [], laidByText := true, laidKinds := [.data], laidTests := true, laidLooks := .later }
def PetriUnionsUptoCardSaid : Prop := Claim7.holds Tryd.pinned (.plain (OpenSpec.upto petriUnionsSpec)) petriUnionsUptoCard

/-- THE SECOND FORM's CARD OF 'taquinlaw18.PetriWeights'. -/
def petriWeightsUptoCard : Claim7 := { stood := { row := petriWeightsUptoRow, standIns := [], harness := (true, "b121689a6f61c0fb2c91ae9805a8536ba1f348764202094c46b223d1bff97f4a"), looks := false }, kinds := [], alts := [], laidByText := true, laidKinds := [.data], laidTests := true, laidLooks := .later }
def PetriWeightsUptoCardSaid : Prop := Claim7.holds Tryd.pinned (.plain (OpenSpec.upto petriWeightsSpec)) petriWeightsUptoCard
end Rows
end Go.Proofs.YthpclmkcljmoeaaDoor
