/-
  DERIVED. GIVEN WITH THE SEED: THE CARDS: each row of YtiemokaiaomdbaaDoorRows.lean that lists a variable, with what it lists TIED to the program's text (the seventh form; the later family's looks); each row that meets fmt, with fmt's text TOLD by the authors' own Lean function (tested against real Go, not proved from fmt's source: count such statements apart). THE CARD IS WHAT COUNTS. Prove the row's statement (the work); the ties are given (YtiemokaiaomdbaaDoorTie.lean); close each card by the builder's one call (the guide's Derived/Test/ToyasCard.lean, 'card_holds'). Laid BY PROGRAM, IN A SANDBOX (cutbox-door.mjs). By AI agents, Wed Nov 11 2026. No macro, syntax, notation, axiom, sorry.
-/
import Derived.Test.YtiemokaiaomdbaaDoorRows
import GoSem.ClaimSeven
namespace Go.Proofs.YtiemokaiaomdbaaDoor
namespace Rows

/-- THE TIED CARD OF 'vergerlaw16.BodyBounds'. -/
def bodyBoundsCard : Claim7 := { stood := { row := bodyBoundsRow, standIns := [], harness := (true, "1f68e1cb190be14a839ecbe15e87427ab8027a32b8b170d504d26357cb7dd59a"), looks := true }, kinds := [], alts := [], laidByText := true, laidKinds := [.data, .data, .data, .data, .sentinel, .sentinel, .pinned], laidTests := true, laidLooks := .later }
def BodyBoundsCardSaid : Prop := Claim7.holds Tryd.pinned (.plain (OpenSpec.ofChange bodyBoundsSpec)) bodyBoundsCard

/-- THE TIED CARD OF 'vergerlaw16.BodyParses'. -/
def bodyParsesCard : Claim7 := { stood := { row := bodyParsesRow, standIns := [], harness := (true, "1f68e1cb190be14a839ecbe15e87427ab8027a32b8b170d504d26357cb7dd59a"), looks := true }, kinds := [], alts := [], laidByText := true, laidKinds := [.data, .data, .data, .data, .sentinel, .sentinel, .pinned], laidTests := true, laidLooks := .later }
def BodyParsesCardSaid : Prop := Claim7.holds Tryd.pinned (.plain (OpenSpec.ofChange bodyParsesSpec)) bodyParsesCard

/-- THE TIED CARD OF 'vergerlaw16.BodySteps'. -/
def bodyStepsCard : Claim7 := { stood := { row := bodyStepsRow, standIns := [], harness := (true, "1f68e1cb190be14a839ecbe15e87427ab8027a32b8b170d504d26357cb7dd59a"), looks := true }, kinds := [], alts := [], laidByText := true, laidKinds := [.data, .data, .data, .data, .sentinel, .sentinel, .pinned], laidTests := true, laidLooks := .later }
def BodyStepsCardSaid : Prop := Claim7.holds Tryd.pinned (.plain (OpenSpec.ofChange bodyStepsSpec)) bodyStepsCard

/-- THE TIED CARD OF 'vergerlaw16.BodyTexts'. -/
def bodyTextsCard : Claim7 := { stood := { row := bodyTextsRow, standIns := [], harness := (true, "1f68e1cb190be14a839ecbe15e87427ab8027a32b8b170d504d26357cb7dd59a"), looks := true }, kinds := [], alts := [], laidByText := true, laidKinds := [.data, .data, .data, .data, .sentinel, .sentinel, .pinned], laidTests := true, laidLooks := .later }
def BodyTextsCardSaid : Prop := Claim7.holds Tryd.pinned (.plain (OpenSpec.ofChange bodyTextsSpec)) bodyTextsCard

/-- THE SECOND FORM's CARD OF 'vergerlaw16.BodyBounds'. -/
def bodyBoundsUptoCard : Claim7 := { stood := { row := bodyBoundsUptoRow, standIns := [], harness := (true, "1f68e1cb190be14a839ecbe15e87427ab8027a32b8b170d504d26357cb7dd59a"), looks := true }, kinds := [], alts := [], laidByText := true, laidKinds := [.data, .data, .data, .data, .sentinel, .sentinel, .pinned], laidTests := true, laidLooks := .later }
def BodyBoundsUptoCardSaid : Prop := Claim7.holds Tryd.pinned (.plain (OpenSpec.upto bodyBoundsSpec)) bodyBoundsUptoCard

/-- THE SECOND FORM's CARD OF 'vergerlaw16.BodyParses'. -/
def bodyParsesUptoCard : Claim7 := { stood := { row := bodyParsesUptoRow, standIns := [], harness := (true, "1f68e1cb190be14a839ecbe15e87427ab8027a32b8b170d504d26357cb7dd59a"), looks := true }, kinds := [], alts := [], laidByText := true, laidKinds := [.data, .data, .data, .data, .sentinel, .sentinel, .pinned], laidTests := true, laidLooks := .later }
def BodyParsesUptoCardSaid : Prop := Claim7.holds Tryd.pinned (.plain (OpenSpec.upto bodyParsesSpec)) bodyParsesUptoCard

/-- THE SECOND FORM's CARD OF 'vergerlaw16.BodySteps'. -/
def bodyStepsUptoCard : Claim7 := { stood := { row := bodyStepsUptoRow, standIns := [], harness := (true, "1f68e1cb190be14a839ecbe15e87427ab8027a32b8b170d504d26357cb7dd59a"), looks := true }, kinds := [], alts := [], laidByText := true, laidKinds := [.data, .data, .data, .data, .sentinel, .sentinel, .pinned], laidTests := true, laidLooks := .later }
def BodyStepsUptoCardSaid : Prop := Claim7.holds Tryd.pinned (.plain (OpenSpec.upto bodyStepsSpec)) bodyStepsUptoCard

/-- THE SECOND FORM's CARD OF 'vergerlaw16.BodyTexts'. -/
def bodyTextsUptoCard : Claim7 := { stood := { row := bodyTextsUptoRow, standIns := [], harness := (true, "1f68e1cb190be14a839ecbe15e87427ab8027a32b8b170d504d26357cb7dd59a"), looks := true }, kinds := [], alts := [], laidByText := true, laidKinds := [.data, .data, .data, .data, .sentinel, .sentinel, .pinned], laidTests := true, laidLooks := .later }
def BodyTextsUptoCardSaid : Prop := Claim7.holds Tryd.pinned (.plain (OpenSpec.upto bodyTextsSpec)) bodyTextsUptoCard
end Rows
end Go.Proofs.YtiemokaiaomdbaaDoor
