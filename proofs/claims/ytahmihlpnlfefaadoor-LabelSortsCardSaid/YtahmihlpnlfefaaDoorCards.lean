/-
  DERIVED. GIVEN WITH THE SEED: THE CARDS: each row of YtahmihlpnlfefaaDoorRows.lean that lists a variable, with what it lists TIED to the program's text (the seventh form; the later family's looks); each row that meets fmt, with fmt's text TOLD by the authors' own Lean function (tested against real Go, not proved from fmt's source: count such statements apart). THE CARD IS WHAT COUNTS. Prove the row's statement (the work); the ties are given (YtahmihlpnlfefaaDoorTie.lean); close each card by the builder's one call (the guide's Derived/Test/ToyasCard.lean, 'card_holds'). Laid BY PROGRAM, IN A SANDBOX (cutbox-door.mjs). By AI agents, Wed Nov 11 2026. No macro, syntax, notation, axiom, sorry.
-/
import Derived.Test.YtahmihlpnlfefaaDoorRows
import GoSem.ClaimSeven
namespace Go.Proofs.YtahmihlpnlfefaaDoor
namespace Rows

/-- THE TIED CARD OF 'groynelaw02.LabelNames'. -/
def labelNamesCard : Claim7 := { stood := { row := labelNamesRow, standIns := [], harness := (true, "a8a2060d198d27e0c88e162f13f9138d0b37eae03cd32ee1e3288ab70a47da44"), looks := false }, kinds := [], alts := [], laidByText := true, laidKinds := [.data, .pinned], laidTests := true, laidLooks := .later }
def LabelNamesCardSaid : Prop := Claim7.holds Tryd.pinned (.plain (OpenSpec.ofChange labelNamesSpec)) labelNamesCard

/-- THE TIED CARD OF 'groynelaw02.LabelOrders'. -/
def labelOrdersCard : Claim7 := { stood := { row := labelOrdersRow, standIns := [], harness := (true, "a8a2060d198d27e0c88e162f13f9138d0b37eae03cd32ee1e3288ab70a47da44"), looks := false }, kinds := [], alts := [], laidByText := true, laidKinds := [.data, .pinned], laidTests := true, laidLooks := .later }
def LabelOrdersCardSaid : Prop := Claim7.holds Tryd.pinned (.plain (OpenSpec.ofChange labelOrdersSpec)) labelOrdersCard

/-- THE TIED CARD OF 'groynelaw02.LabelMatches'. -/
def labelMatchesCard : Claim7 := { stood := { row := labelMatchesRow, standIns := [], harness := (true, "a8a2060d198d27e0c88e162f13f9138d0b37eae03cd32ee1e3288ab70a47da44"), looks := false }, kinds := [], alts := [], laidByText := true, laidKinds := [.data, .pinned], laidTests := true, laidLooks := .later }
def LabelMatchesCardSaid : Prop := Claim7.holds Tryd.pinned (.plain (OpenSpec.ofChange labelMatchesSpec)) labelMatchesCard

/-- THE TIED CARD OF 'groynelaw02.LabelStars'. -/
def labelStarsCard : Claim7 := { stood := { row := labelStarsRow, standIns := [], harness := (true, "a8a2060d198d27e0c88e162f13f9138d0b37eae03cd32ee1e3288ab70a47da44"), looks := false }, kinds := [], alts := [], laidByText := true, laidKinds := [.data, .pinned], laidTests := true, laidLooks := .later }
def LabelStarsCardSaid : Prop := Claim7.holds Tryd.pinned (.plain (OpenSpec.ofChange labelStarsSpec)) labelStarsCard

/-- THE TIED CARD OF 'groynelaw02.LabelQuotes'. -/
def labelQuotesCard : Claim7 := { stood := { row := labelQuotesRow, standIns := [], harness := (true, "a8a2060d198d27e0c88e162f13f9138d0b37eae03cd32ee1e3288ab70a47da44"), looks := false }, kinds := [], alts := [], laidByText := true, laidKinds := [.data, .pinned], laidTests := true, laidLooks := .later }
def LabelQuotesCardSaid : Prop := Claim7.holds Tryd.pinned (.plain (OpenSpec.ofChange labelQuotesSpec)) labelQuotesCard

/-- THE TIED CARD OF 'groynelaw02.LabelPicks'. -/
def labelPicksCard : Claim7 := { stood := { row := labelPicksRow, standIns := [], harness := (true, "a8a2060d198d27e0c88e162f13f9138d0b37eae03cd32ee1e3288ab70a47da44"), looks := false }, kinds := [], alts := [], laidByText := true, laidKinds := [.data, .pinned], laidTests := true, laidLooks := .later }
def LabelPicksCardSaid : Prop := Claim7.holds Tryd.pinned (.plain (OpenSpec.ofChange labelPicksSpec)) labelPicksCard

/-- THE TIED CARD OF 'groynelaw02.LabelSorts'. -/
def labelSortsCard : Claim7 := { stood := { row := labelSortsRow, standIns := [], harness := (true, "a8a2060d198d27e0c88e162f13f9138d0b37eae03cd32ee1e3288ab70a47da44"), looks := false }, kinds := [], alts := [], laidByText := true, laidKinds := [.data, .pinned], laidTests := true, laidLooks := .later }
def LabelSortsCardSaid : Prop := Claim7.holds Tryd.pinned (.plain (OpenSpec.ofChange labelSortsSpec)) labelSortsCard

/-- THE SECOND FORM's CARD OF 'groynelaw02.LabelNames'. -/
def labelNamesUptoCard : Claim7 := { stood := { row := labelNamesUptoRow, standIns := [], harness := (true, "a8a2060d198d27e0c88e162f13f9138d0b37eae03cd32ee1e3288ab70a47da44"), looks := false }, kinds := [], alts := [], laidByText := true, laidKinds := [.data, .pinned], laidTests := true, laidLooks := .later }
def LabelNamesUptoCardSaid : Prop := Claim7.holds Tryd.pinned (.plain (OpenSpec.upto labelNamesSpec)) labelNamesUptoCard

/-- THE SECOND FORM's CARD OF 'groynelaw02.LabelOrders'. -/
def labelOrdersUptoCard : Claim7 := { stood := { row := labelOrdersUptoRow, standIns := [], harness := (true, "a8a2060d198d27e0c88e162f13f9138d0b37eae03cd32ee1e3288ab70a47da44"), looks := false }, kinds := [], alts := [], laidByText := true, laidKinds := [.data, .pinned], laidTests := true, laidLooks := .later }
def LabelOrdersUptoCardSaid : Prop := Claim7.holds Tryd.pinned (.plain (OpenSpec.upto labelOrdersSpec)) labelOrdersUptoCard

/-- THE SECOND FORM's CARD OF 'groynelaw02.LabelMatches'. -/
def labelMatchesUptoCard : Claim7 := { stood := { row := labelMatchesUptoRow, standIns := [], harness := (true, "a8a2060d198d27e0c88e162f13f9138d0b37eae03cd32ee1e3288ab70a47da44"), looks := false }, kinds := [], alts := [], laidByText := true, laidKinds := [.data, .pinned], laidTests := true, laidLooks := .later }
def LabelMatchesUptoCardSaid : Prop := Claim7.holds Tryd.pinned (.plain (OpenSpec.upto labelMatchesSpec)) labelMatchesUptoCard

/-- THE SECOND FORM's CARD OF 'groynelaw02.LabelStars'. -/
def labelStarsUptoCard : Claim7 := { stood := { row := labelStarsUptoRow, standIns := [], harness := (true, "a8a2060d198d27e0c88e162f13f9138d0b37eae03cd32ee1e3288ab70a47da44"), looks := false }, kinds := [], alts := [], laidByText := true, laidKinds := [.data, .pinned], laidTests := true, laidLooks := .later }
def LabelStarsUptoCardSaid : Prop := Claim7.holds Tryd.pinned (.plain (OpenSpec.upto labelStarsSpec)) labelStarsUptoCard

/-- THE SECOND FORM's CARD OF 'groynelaw02.LabelQuotes'. -/
def labelQuotesUptoCard : Claim7 := { stood := { row := labelQuotesUptoRow, standIns := [], harness := (true, "a8a2060d198d27e0c88e162f13f9138d0b37eae03cd32ee1e3288ab70a47da44"), looks := false }, kinds := [], alts := [], laidByText := true, laidKinds := [.data, .pinned], laidTests := true, laidLooks := .later }
def LabelQuotesUptoCardSaid : Prop := Claim7.holds Tryd.pinned (.plain (OpenSpec.upto labelQuotesSpec)) labelQuotesUptoCard

/-- THE SECOND FORM's CARD OF 'groynelaw02.LabelPicks'. -/
def labelPicksUptoCard : Claim7 := { stood := { row := labelPicksUptoRow, standIns := [], harness := (true, "a8a2060d198d27e0c88e162f13f9138d0b37eae03cd32ee1e3288ab70a47da44"), looks := false }, kinds := [], alts := [], laidByText := true, laidKinds := [.data, .pinned], laidTests := true, laidLooks := .later }
def LabelPicksUptoCardSaid : Prop := Claim7.holds Tryd.pinned (.plain (OpenSpec.upto labelPicksSpec)) labelPicksUptoCard

/-- THE SECOND FORM's CARD OF 'groynelaw02.LabelSorts'. -/
def labelSortsUptoCard : Claim7 := { stood := { row := labelSortsUptoRow, standIns := [], harness := (true, "a8a2060d198d27e0c88e162f13f9138d0b37eae03cd32ee1e3288ab70a47da44"), looks := false }, kinds := [], alts := [], laidByText := true, laidKinds := [.data, .pinned], laidTests := true, laidLooks := .later }
def LabelSortsUptoCardSaid : Prop := Claim7.holds Tryd.pinned (.plain (OpenSpec.upto labelSortsSpec)) labelSortsUptoCard
end Rows
end Go.Proofs.YtahmihlpnlfefaaDoor
