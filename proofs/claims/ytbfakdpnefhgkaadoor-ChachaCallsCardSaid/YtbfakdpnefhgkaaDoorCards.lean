/-
  DERIVED. GIVEN WITH THE SEED: THE CARDS: each row of YtbfakdpnefhgkaaDoorRows.lean that lists a variable, with what it lists TIED to the program's text (the seventh form; the later family's looks); each row that meets fmt, with fmt's text TOLD by the authors' own Lean function (tested against real Go, not proved from fmt's source: count such statements apart). THE CARD IS WHAT COUNTS. Prove the row's statement (the work); the ties are given (YtbfakdpnefhgkaaDoorTie.lean); close each card by the builder's one call (the guide's Derived/Test/ToyasCard.lean, 'card_holds'). Laid BY PROGRAM, IN A SANDBOX (cutbox-door.mjs). By AI agents, Wed Nov 11 2026. No macro, syntax, notation, axiom, sorry.
-/
import Derived.Test.YtbfakdpnefhgkaaDoorRows
import GoSem.ClaimSeven
namespace Go.Proofs.YtbfakdpnefhgkaaDoor
namespace Rows

/-- THE TIED CARD OF 'drawbridgelaw02.ChachaTurns'. -/
def chachaTurnsCard : Claim7 := { stood := { row := chachaTurnsRow, standIns := [], harness := (true, "e467f58cdcbfe07b7317d42ca839149df3e8f3e3e9676f5c1dd2f931c3bc22a4"), looks := false }, kinds := [], alts := [], laidByText := true, laidKinds := [.data], laidTests := true, laidLooks := .later }
def ChachaTurnsCardSaid : Prop := Claim7.holds Tryd.pinned (.plain (OpenSpec.ofChange chachaTurnsSpec)) chachaTurnsCard

/-- THE TIED CARD OF 'drawbridgelaw02.ChachaStates'. -/
def chachaStatesCard : Claim7 := { stood := { row := chachaStatesRow, standIns := [], harness := (true, "e467f58cdcbfe07b7317d42ca839149df3e8f3e3e9676f5c1dd2f931c3bc22a4"), looks := false }, kinds := [], alts := [], laidByText := true, laidKinds := [.data], laidTests := true, laidLooks := .later }
def ChachaStatesCardSaid : Prop := Claim7.holds Tryd.pinned (.plain (OpenSpec.ofChange chachaStatesSpec)) chachaStatesCard

/-- THE TIED CARD OF 'drawbridgelaw02.ChachaNames'. -/
def chachaNamesCard : Claim7 := { stood := { row := chachaNamesRow, standIns := [], harness := (true, "e467f58cdcbfe07b7317d42ca839149df3e8f3e3e9676f5c1dd2f931c3bc22a4"), looks := false }, kinds := [], alts := [], laidByText := true, laidKinds := [.data], laidTests := true, laidLooks := .later }
def ChachaNamesCardSaid : Prop := Claim7.holds Tryd.pinned (.plain (OpenSpec.ofChange chachaNamesSpec)) chachaNamesCard

/-- THE TIED CARD OF 'drawbridgelaw02.ChachaCalls'. -/
def chachaCallsCard : Claim7 := { stood := { row := chachaCallsRow, standIns := [], harness := (true, "e467f58cdcbfe07b7317d42ca839149df3e8f3e3e9676f5c1dd2f931c3bc22a4"), looks := false }, kinds := [], alts := [], laidByText := true, laidKinds := [.data], laidTests := true, laidLooks := .later }
def ChachaCallsCardSaid : Prop := Claim7.holds Tryd.pinned (.plain (OpenSpec.ofChange chachaCallsSpec)) chachaCallsCard

/-- THE TIED CARD OF 'drawbridgelaw02.ChachaBack'. -/
def chachaBackCard : Claim7 := { stood := { row := chachaBackRow, standIns := [], harness := (true, "e467f58cdcbfe07b7317d42ca839149df3e8f3e3e9676f5c1dd2f931c3bc22a4"), looks := false }, kinds := [], alts := [], laidByText := true, laidKinds := [.data], laidTests := true, laidLooks := .later }
def ChachaBackCardSaid : Prop := Claim7.holds Tryd.pinned (.plain (OpenSpec.ofChange chachaBackSpec)) chachaBackCard

/-- THE TIED CARD OF 'drawbridgelaw02.ChachaRows'. -/
def chachaRowsCard : Claim7 := { stood := { row := chachaRowsRow, standIns := [], harness := (true, "e467f58cdcbfe07b7317d42ca839149df3e8f3e3e9676f5c1dd2f931c3bc22a4"), looks := false }, kinds := [], alts := [], laidByText := true, laidKinds := [.data], laidTests := true, laidLooks := .later }
def ChachaRowsCardSaid : Prop := Claim7.holds Tryd.pinned (.plain (OpenSpec.ofChange chachaRowsSpec)) chachaRowsCard

/-- THE SECOND FORM's CARD OF 'drawbridgelaw02.ChachaTurns'. -/
def chachaTurnsUptoCard : Claim7 := { stood := { row := chachaTurnsUptoRow, standIns := [], harness := (true, "e467f58cdcbfe07b7317d42ca839149df3e8f3e3e9676f5c1dd2f931c3bc22a4"), looks := false }, kinds := [], alts := [], laidByText := true, laidKinds := [.data], laidTests := true, laidLooks := .later }
def ChachaTurnsUptoCardSaid : Prop := Claim7.holds Tryd.pinned (.plain (OpenSpec.upto chachaTurnsSpec)) chachaTurnsUptoCard

/-- THE SECOND FORM's CARD OF 'drawbridgelaw02.ChachaStates'. -/
def chachaStatesUptoCard : Claim7 := { stood := { row := chachaStatesUptoRow, standIns := [], harness := (true, "e467f58cdcbfe07b7317d42ca839149df3e8f3e3e9676f5c1dd2f931c3bc22a4"), looks := false }, kinds := [], alts := [], laidByText := true, laidKinds := [.data], laidTests := true, laidLooks := .later }
def ChachaStatesUptoCardSaid : Prop := Claim7.holds Tryd.pinned (.plain (OpenSpec.upto chachaStatesSpec)) chachaStatesUptoCard

/-- THE SECOND FORM's CARD OF 'drawbridgelaw02.ChachaNames'. -/
def chachaNamesUptoCard : Claim7 := { stood := { row := chachaNamesUptoRow, standIns := [], harness := (true, "e467f58cdcbfe07b7317d42ca839149df3e8f3e3e9676f5c1dd2f931c3bc22a4"), looks := false }, kinds := [], alts := [], laidByText := true, laidKinds := [.data], laidTests := true, laidLooks := .later }
def ChachaNamesUptoCardSaid : Prop := Claim7.holds Tryd.pinned (.plain (OpenSpec.upto chachaNamesSpec)) chachaNamesUptoCard

/-- THE SECOND FORM's CARD OF 'drawbridgelaw02.ChachaCalls'. -/
def chachaCallsUptoCard : Claim7 := { stood := { row := chachaCallsUptoRow, standIns := [], harness := (true, "e467f58cdcbfe07b7317d42ca839149df3e8f3e3e9676f5c1dd2f931c3bc22a4"), looks := false }, kinds := [], alts := [], laidByText := true, laidKinds := [.data], laidTests := true, laidLooks := .later }
def ChachaCallsUptoCardSaid : Prop := Claim7.holds Tryd.pinned (.plain (OpenSpec.upto chachaCallsSpec)) chachaCallsUptoCard

/-- THE SECOND FORM's CARD OF 'drawbridgelaw02.ChachaBack'. -/
def chachaBackUptoCard : Claim7 := { stood := { row := chachaBackUptoRow, standIns := [], harness := (true, "e467f58cdcbfe07b7317d42ca839149df3e8f3e3e9676f5c1dd2f931c3bc22a4"), looks := false }, kinds := [], alts := [], laidByText := true, laidKinds := [.data], laidTests := true, laidLooks := .later }
def ChachaBackUptoCardSaid : Prop := Claim7.holds Tryd.pinned (.plain (OpenSpec.upto chachaBackSpec)) chachaBackUptoCard

/-- THE SECOND FORM's CARD OF 'drawbridgelaw02.ChachaRows'. -/
def chachaRowsUptoCard : Claim7 := { stood := { row := chachaRowsUptoRow, standIns := [], harness := (true, "e467f58cdcbfe07b7317d42ca839149df3e8f3e3e9676f5c1dd2f931c3bc22a4"), looks := false }, kinds := [], alts := [], laidByText := true, laidKinds := [.data], laidTests := true, laidLooks := .later }
def ChachaRowsUptoCardSaid : Prop := Claim7.holds Tryd.pinned (.plain (OpenSpec.upto chachaRowsSpec)) chachaRowsUptoCard
end Rows
end Go.Proofs.YtbfakdpnefhgkaaDoor
