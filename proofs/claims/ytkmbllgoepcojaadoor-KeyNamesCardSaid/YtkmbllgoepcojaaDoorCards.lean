/-
  DERIVED. GIVEN WITH THE SEED: THE CARDS: each row of YtkmbllgoepcojaaDoorRows.lean that lists a variable, with what it lists TIED to the program's text (the seventh form; the later family's looks); each row that meets fmt, with fmt's text TOLD by the authors' own Lean function (tested against real Go, not proved from fmt's source: count such statements apart). THE CARD IS WHAT COUNTS. Prove the row's statement (the work); the ties are given (YtkmbllgoepcojaaDoorTie.lean); close each card by the builder's one call (the guide's Derived/Test/ToyasCard.lean, 'card_holds'). Laid BY PROGRAM, IN A SANDBOX (cutbox-door.mjs). By AI agents, Wed Nov 11 2026. No macro, syntax, notation, axiom, sorry.
-/
import Derived.Test.YtkmbllgoepcojaaDoorRows
import GoSem.ClaimSeven
namespace Go.Proofs.YtkmbllgoepcojaaDoor
namespace Rows

/-- THE TIED CARD OF 'bailifflaw08.KeyOnes'. -/
def keyOnesCard : Claim7 := { stood := { row := keyOnesRow, standIns := [], harness := (true, "fbd4b97a46b4cc359f269828c23f00e2c1f622509aec94cbb72b89ec2a97845f"), looks := false }, kinds := [], alts := [], laidByText := true, laidKinds := [.data, .data, .data], laidTests := true, laidLooks := .later }
def KeyOnesCardSaid : Prop := Claim7.holds Tryd.pinned (.plain (OpenSpec.ofChange keyOnesSpec)) keyOnesCard

/-- THE TIED CARD OF 'bailifflaw08.KeyRow'. -/
def keyRowCard : Claim7 := { stood := { row := keyRowRow, standIns := [], harness := (true, "fbd4b97a46b4cc359f269828c23f00e2c1f622509aec94cbb72b89ec2a97845f"), looks := false }, kinds := [], alts := [], laidByText := true, laidKinds := [.data, .data, .data], laidTests := true, laidLooks := .later }
def KeyRowCardSaid : Prop := Claim7.holds Tryd.pinned (.plain (OpenSpec.ofChange keyRowSpec)) keyRowCard

/-- THE TIED CARD OF 'bailifflaw08.KeyNames'. -/
def keyNamesCard : Claim7 := { stood := { row := keyNamesRow, standIns := [], harness := (true, "fbd4b97a46b4cc359f269828c23f00e2c1f622509aec94cbb72b89ec2a97845f"), looks := false }, kinds := [], alts := [], laidByText := true, laidKinds := [.data, .data, .data], laidTests := true, laidLooks := .later }
def KeyNamesCardSaid : Prop := Claim7.holds Tryd.pinned (.plain (OpenSpec.ofChange keyNamesSpec)) keyNamesCard

/-- THE TIED CARD OF 'bailifflaw08.KeyBack'. -/
def keyBackCard : Claim7 := { stood := { row := keyBackRow, standIns := [], harness := (true, "fbd4b97a46b4cc359f269828c23f00e2c1f622509aec94cbb72b89ec2a97845f"), looks := false }, kinds := [], alts := [], laidByText := true, laidKinds := [.data, .data, .data], laidTests := true, laidLooks := .later }
def KeyBackCardSaid : Prop := Claim7.holds Tryd.pinned (.plain (OpenSpec.ofChange keyBackSpec)) keyBackCard

/-- THE SECOND FORM's CARD OF 'bailifflaw08.KeyOnes'. -/
def keyOnesUptoCard : Claim7 := { stood := { row := keyOnesUptoRow, standIns := [], harness := (true, "fbd4b97a46b4cc359f269828c23f00e2c1f622509aec94cbb72b89ec2a97845f"), looks := false }, kinds := [], alts := [], laidByText := true, laidKinds := [.data, .data, .data], laidTests := true, laidLooks := .later }
def KeyOnesUptoCardSaid : Prop := Claim7.holds Tryd.pinned (.plain (OpenSpec.upto keyOnesSpec)) keyOnesUptoCard

/-- THE SECOND FORM's CARD OF 'bailifflaw08.KeyRow'. -/
def keyRowUptoCard : Claim7 := { stood := { row := keyRowUptoRow, standIns := [], harness := (true, "fbd4b97a46b4cc359f269828c23f00e2c1f622509aec94cbb72b89ec2a97845f"), looks := false }, kinds := [], alts := [], laidByText := true, laidKinds := [.data, .data, .data], laidTests := true, laidLooks := .later }
def KeyRowUptoCardSaid : Prop := Claim7.holds Tryd.pinned (.plain (OpenSpec.upto keyRowSpec)) keyRowUptoCard

/-- THE SECOND FORM's CARD OF 'bailifflaw08.KeyNames'. -/
def keyNamesUptoCard : Claim7 := { stood := { row := keyNamesUptoRow, standIns := [], harness := (true, "fbd4b97a46b4cc359f269828c23f00e2c1f622509aec94cbb72b89ec2a97845f"), looks := false }, kinds := [], alts := [], laidByText := true, laidKinds := [.data, .data, .data], laidTests := true, laidLooks := .later }
def KeyNamesUptoCardSaid : Prop := Claim7.holds Tryd.pinned (.plain (OpenSpec.upto keyNamesSpec)) keyNamesUptoCard

/-- THE SECOND FORM's CARD OF 'bailifflaw08.KeyBack'. -/
def keyBackUptoCard : Claim7 := { stood := { row := keyBackUptoRow, standIns := [], harness := (true, "fbd4b97a46b4cc359f269828c23f00e2c1f622509aec94cbb72b89ec2a97845f"), looks := false }, kinds := [], alts := [], laidByText := true, laidKinds := [.data, .data, .data], laidTests := true, laidLooks := .later }
def KeyBackUptoCardSaid : Prop := Claim7.holds Tryd.pinned (.plain (OpenSpec.upto keyBackSpec)) keyBackUptoCard
end Rows
end Go.Proofs.YtkmbllgoepcojaaDoor
