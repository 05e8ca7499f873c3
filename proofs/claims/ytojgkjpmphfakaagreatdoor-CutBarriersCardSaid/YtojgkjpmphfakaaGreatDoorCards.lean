/-
  DERIVED. GIVEN WITH THE SEED: THE CARDS: each row of YtojgkjpmphfakaaGreatDoorRows.lean that lists a variable, with what it lists TIED to the program's text (the seventh form; the later family's looks); each row that meets fmt, with fmt's text TOLD by the authors' own Lean function (tested against real Go, not proved from fmt's source: count such statements apart). THE CARD IS WHAT COUNTS. Prove the row's statement (the work); the ties are given (YtojgkjpmphfakaaGreatDoorTie.lean); close each card by the builder's one call (the guide's Derived/Test/ToyasCard.lean, 'card_holds'). Laid BY PROGRAM, IN A SANDBOX (cutbox-door.mjs). By AI agents, Wed Nov 11 2026. No macro, syntax, notation, axiom, sorry.
-/
import Derived.Test.YtojgkjpmphfakaaGreatDoorRows
import GoSem.ClaimSeven
namespace Go.Proofs.YtojgkjpmphfakaaGreatDoor
namespace Rows

/-- THE TIED CARD OF 'groynelaw16.CutBarriers'. -/
def cutBarriersCard : Claim7 := { stood := { row := cutBarriersRow, standIns := [], harness := (true, "c84d2bc83c8fc45267ad50ce69185f0bf0b5226f56c09c9249c1eb70dc6de668"), looks := false }, kinds := [], alts := [], laidByText := true, laidKinds := [.data, .pinned], laidTests := true, laidLooks := .later }
def CutBarriersCardSaid : Prop := Claim7.holds Tryz.pinned (.plain (OpenSpec.ofChange cutBarriersSpec)) cutBarriersCard

/-- THE TIED CARD OF 'groynelaw16.CutKeeps'. -/
def cutKeepsCard : Claim7 := { stood := { row := cutKeepsRow, standIns := [], harness := (true, "c84d2bc83c8fc45267ad50ce69185f0bf0b5226f56c09c9249c1eb70dc6de668"), looks := false }, kinds := [], alts := [], laidByText := true, laidKinds := [.data, .pinned], laidTests := true, laidLooks := .later }
def CutKeepsCardSaid : Prop := Claim7.holds Tryz.pinned (.plain (OpenSpec.ofChange cutKeepsSpec)) cutKeepsCard

/-- THE TIED CARD OF 'groynelaw16.CutClaims'. -/
def cutClaimsCard : Claim7 := { stood := { row := cutClaimsRow, standIns := [], harness := (true, "c84d2bc83c8fc45267ad50ce69185f0bf0b5226f56c09c9249c1eb70dc6de668"), looks := false }, kinds := [], alts := [], laidByText := true, laidKinds := [.data, .pinned], laidTests := true, laidLooks := .later }
def CutClaimsCardSaid : Prop := Claim7.holds Tryz.pinned (.plain (OpenSpec.ofChange cutClaimsSpec)) cutClaimsCard

/-- THE SECOND FORM's CARD OF 'groynelaw16.CutBarriers'. -/
def cutBarriersUptoCard : Claim7 := { stood := { row := cutBarriersUptoRow, standIns := [], harness := (true, "c84d2bc83c8fc45267ad50ce69185f0bf0b5226f56c09c9249c1eb70dc6de668"), looks := false }, kinds := [], alts := [], laidByText := true, laidKinds := [.data, .pinned], laidTests := true, laidLooks := .later }
def CutBarriersUptoCardSaid : Prop := Claim7.holds Tryz.pinned (.plain (OpenSpec.upto cutBarriersSpec)) cutBarriersUptoCard

/-- THE SECOND FORM's CARD OF 'groynelaw16.CutKeeps'. -/
def cutKeepsUptoCard : Claim7 := { stood := { row := cutKeepsUptoRow, standIns := [], harness := (true, "c84d2bc83c8fc45267ad50ce69185f0bf0b5226f56c09c9249c1eb70dc6de668"), looks := false }, kinds := [], alts := [], laidByText := true, laidKinds := [.data, .pinned], laidTests := true, laidLooks := .later }
def CutKeepsUptoCardSaid : Prop := Claim7.holds Tryz.pinned (.plain (OpenSpec.upto cutKeepsSpec)) cutKeepsUptoCard

/-- THE SECOND FORM's CARD OF 'groynelaw16.CutClaims'. -/
def cutClaimsUptoCard : Claim7 := { stood := { row := cutClaimsUptoRow, standIns := [], harness := (true, "c84d2bc83c8fc45267ad50ce69185f0bf0b5226f56c09c9249c1eb70dc6de668"), looks := false }, kinds := [], alts := [], laidByText := true, laidKinds := [.data, .pinned], laidTests := true, laidLooks := .later }
def CutClaimsUptoCardSaid : Prop := Claim7.holds Tryz.pinned (.plain (OpenSpec.upto cutClaimsSpec)) cutClaimsUptoCard
end Rows
end Go.Proofs.YtojgkjpmphfakaaGreatDoor
