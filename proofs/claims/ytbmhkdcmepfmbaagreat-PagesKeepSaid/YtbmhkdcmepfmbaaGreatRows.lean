/-
  No cell of these rows narrows 'for every input' (looked for: loops, veiled, ifaces, maps, wideKeys, modest, calm, conditions, laid).
  DERIVED. THE GIVEN ROWS OF THIS SEAT. 4 by the template 'for every input the law returns true; each argument reads behind the call as it read before'; 0 by the template 'total and deterministic' (their statements: YtbmhkdcmepfmbaaGreatTotals.lean).
  GIVEN WITH THE SEED: the statements are not yours to turn. If you find one false, say at which input.
  Laid BY PROGRAM, IN A SANDBOX (cutbox-rows.mjs): the forced cells as the released guide's own fill.sh prints them over the translation 35d4e505c6d57d85… (all of the seat's roots in one cut). By AI agents, Wed Nov 11 2026. No macro, syntax, notation, axiom, sorry.
-/
import Derived.Test.YtbmhkdcmepfmbaaGreatChecked
import GoSem.Claim
import GoSem.ClaimJoined
import GoSem.ClaimMapViews
import Derived.JoinedTies
import Derived.KernelRfl
namespace Go.Proofs.YtbmhkdcmepfmbaaGreat
/- THE CELL 'sum', in the pinned program and in every row, IS THE sha256 OF THE DUMP (.gsa) THAT YtbmhkdcmepfmbaaGreatProg.lean LOADS. Nothing in Lean hashes anything: it is a label: what it is worth is what the hold of that sum in a sandbox is worth. -/
noncomputable def Tryz.pinned : Pinned := { name := "ytbmhkdcmepfmbaagreat", sum := "35d4e505c6d57d8552dd57bdab3ed79162a3ec05a7115859eb0a4922f746be0f", checked := Tryz.checked }
namespace Rows
def none {H : Type} : Left H := { results := [], args := [] }

/-- 'groynelaw07.PagesKeep': WHATEVER THE INPUT: true; the input reads as it did. -/
def pagesKeepSpec : ChangeSpec := { name := "pagesKeep", fn := fun _ => fun
  | [d1, d2] => { results := [.lit (.bool true)], args := [d1, d2] }
  | _ => none }
def pagesKeepRow : OpenClaim := { program := "ytbmhkdcmepfmbaagreat", sum := "35d4e505c6d57d8552dd57bdab3ed79162a3ec05a7115859eb0a4922f746be0f", func := "groyne/groynelaw07.PagesKeep", spec := "pagesKeep", inPlace := ["internal/abi.NoEscape", "internal/bytealg.MakeNoZero", "maps.clone"], unfollowed := true, recurses := true, apart := false }
def PagesKeepSaid : Prop := pagesKeepRow.holds Tryz.pinned (OpenSpec.ofChange pagesKeepSpec)

/-- ITS FALSE NEIGHBOUR: 'it returns false'. Refute it at one input. -/
def pagesKeepWrong : ChangeSpec := { name := "pagesKeep", fn := fun _ => fun
  | [d1, d2] => { results := [.lit (.bool false)], args := [d1, d2] }
  | _ => none }
def PagesKeepWrongFalsely : Prop := pagesKeepRow.holds Tryz.pinned (OpenSpec.ofChange pagesKeepWrong)

/-- 'groynelaw07.PagesHands': WHATEVER THE INPUT: true; the input reads as it did. -/
def pagesHandsSpec : ChangeSpec := { name := "pagesHands", fn := fun _ => fun
  | [d1, d2, d3] => { results := [.lit (.bool true)], args := [d1, d2, d3] }
  | _ => none }
def pagesHandsRow : OpenClaim := { program := "ytbmhkdcmepfmbaagreat", sum := "35d4e505c6d57d8552dd57bdab3ed79162a3ec05a7115859eb0a4922f746be0f", func := "groyne/groynelaw07.PagesHands", spec := "pagesHands", inPlace := ["internal/abi.NoEscape", "internal/bytealg.MakeNoZero", "maps.clone"], unfollowed := true, recurses := true, apart := false }
def PagesHandsSaid : Prop := pagesHandsRow.holds Tryz.pinned (OpenSpec.ofChange pagesHandsSpec)

/-- ITS FALSE NEIGHBOUR: 'it returns false'. Refute it at one input. -/
def pagesHandsWrong : ChangeSpec := { name := "pagesHands", fn := fun _ => fun
  | [d1, d2, d3] => { results := [.lit (.bool false)], args := [d1, d2, d3] }
  | _ => none }
def PagesHandsWrongFalsely : Prop := pagesHandsRow.holds Tryz.pinned (OpenSpec.ofChange pagesHandsWrong)

/-- 'groynelaw07.PagesCalls': WHATEVER THE INPUT: true; the input reads as it did. -/
def pagesCallsSpec : ChangeSpec := { name := "pagesCalls", fn := fun _ => fun
  | [d1, d2] => { results := [.lit (.bool true)], args := [d1, d2] }
  | _ => none }
def pagesCallsRow : OpenClaim := { program := "ytbmhkdcmepfmbaagreat", sum := "35d4e505c6d57d8552dd57bdab3ed79162a3ec05a7115859eb0a4922f746be0f", func := "groyne/groynelaw07.PagesCalls", spec := "pagesCalls", inPlace := ["internal/abi.NoEscape", "internal/bytealg.MakeNoZero", "maps.clone"], unfollowed := true, recurses := true, apart := false }
def PagesCallsSaid : Prop := pagesCallsRow.holds Tryz.pinned (OpenSpec.ofChange pagesCallsSpec)

/-- ITS FALSE NEIGHBOUR: 'it returns false'. Refute it at one input. -/
def pagesCallsWrong : ChangeSpec := { name := "pagesCalls", fn := fun _ => fun
  | [d1, d2] => { results := [.lit (.bool false)], args := [d1, d2] }
  | _ => none }
def PagesCallsWrongFalsely : Prop := pagesCallsRow.holds Tryz.pinned (OpenSpec.ofChange pagesCallsWrong)

/-- 'groynelaw07.PagesSurvive': WHATEVER THE INPUT: true; the input reads as it did. -/
def pagesSurviveSpec : ChangeSpec := { name := "pagesSurvive", fn := fun _ => fun
  | [d1, d2] => { results := [.lit (.bool true)], args := [d1, d2] }
  | _ => none }
def pagesSurviveRow : OpenClaim := { program := "ytbmhkdcmepfmbaagreat", sum := "35d4e505c6d57d8552dd57bdab3ed79162a3ec05a7115859eb0a4922f746be0f", func := "groyne/groynelaw07.PagesSurvive", spec := "pagesSurvive", inPlace := ["internal/abi.NoEscape", "internal/bytealg.MakeNoZero", "maps.clone"], unfollowed := true, recurses := true, apart := false }
def PagesSurviveSaid : Prop := pagesSurviveRow.holds Tryz.pinned (OpenSpec.ofChange pagesSurviveSpec)

/-- ITS FALSE NEIGHBOUR: 'it returns false'. Refute it at one input. -/
def pagesSurviveWrong : ChangeSpec := { name := "pagesSurvive", fn := fun _ => fun
  | [d1, d2] => { results := [.lit (.bool false)], args := [d1, d2] }
  | _ => none }
def PagesSurviveWrongFalsely : Prop := pagesSurviveRow.holds Tryz.pinned (OpenSpec.ofChange pagesSurviveWrong)

/- THE SECOND FORM. 'bulk': how many values and letters a reading holds, each counted each time it is reached (what is shared counts as often as it is met; a slice's spare places count too). A statement '..UptoSaid' is the law's where the arguments, and the package variables that the reading takes, are together of bulk at most 1048576: NARROWER than '..Said'. Prove '..Said' where nothing that the law and all that it calls make is longer than what came in: it says more and counts as full. Else prove '..UptoSaid'. A law counts once. -/
mutual
def uptoBulk {H : Type} : DataW H → Nat
  | .lit (.string bytes) => bytes.length + 1
  | .lit _ => 1
  | .nil => 1
  | .ptr d => uptoBulk d + 1
  | .slice elems spare => uptoBulkAll elems + uptoBulkAll spare + 1
  | .agg parts => uptoBulkAll parts + 1
  | .iface _ d => uptoBulk d + 1
  | .map entries => uptoBulkEntries entries + 1
  | .held _ => 1
def uptoBulkAll {H : Type} : List (DataW H) → Nat
  | [] => 0
  | d :: r => uptoBulk d + uptoBulkAll r
def uptoBulkEntries {H : Type} : List (Lit × DataW H) → Nat
  | [] => 0
  | x :: r => uptoBulkEntry x + uptoBulkEntries r
def uptoBulkEntry {H : Type} : Lit × DataW H → Nat
  | (.string bytes, d) => bytes.length + uptoBulk d + 1
  | (_, d) => uptoBulk d + 1
 end
def uptoSmall : (H : Type) → List (DataW H) → Bool := fun _ ds => decide (uptoBulkAll ds ≤ 1048576)
def OpenSpec.upto (s : _root_.Go.ChangeSpec) : _root_.Go.OpenSpec := { _root_.Go.OpenSpec.ofChange s with cond := some uptoSmall }

/-- 'groynelaw07.PagesKeep', WHERE WHAT IT READS IS OF BULK AT MOST 1048576: true; the input reads as it did. -/
def pagesKeepUptoRow : OpenClaim := { program := "ytbmhkdcmepfmbaagreat", sum := "35d4e505c6d57d8552dd57bdab3ed79162a3ec05a7115859eb0a4922f746be0f", func := "groyne/groynelaw07.PagesKeep", spec := "pagesKeep", inPlace := ["internal/abi.NoEscape", "internal/bytealg.MakeNoZero", "maps.clone"], unfollowed := true, recurses := true, apart := false, narrowed := true }
def PagesKeepUptoSaid : Prop := pagesKeepUptoRow.holds Tryz.pinned (OpenSpec.upto pagesKeepSpec)

/-- 'groynelaw07.PagesHands', WHERE WHAT IT READS IS OF BULK AT MOST 1048576: true; the input reads as it did. -/
def pagesHandsUptoRow : OpenClaim := { program := "ytbmhkdcmepfmbaagreat", sum := "35d4e505c6d57d8552dd57bdab3ed79162a3ec05a7115859eb0a4922f746be0f", func := "groyne/groynelaw07.PagesHands", spec := "pagesHands", inPlace := ["internal/abi.NoEscape", "internal/bytealg.MakeNoZero", "maps.clone"], unfollowed := true, recurses := true, apart := false, narrowed := true }
def PagesHandsUptoSaid : Prop := pagesHandsUptoRow.holds Tryz.pinned (OpenSpec.upto pagesHandsSpec)

/-- 'groynelaw07.PagesCalls', WHERE WHAT IT READS IS OF BULK AT MOST 1048576: true; the input reads as it did. -/
def pagesCallsUptoRow : OpenClaim := { program := "ytbmhkdcmepfmbaagreat", sum := "35d4e505c6d57d8552dd57bdab3ed79162a3ec05a7115859eb0a4922f746be0f", func := "groyne/groynelaw07.PagesCalls", spec := "pagesCalls", inPlace := ["internal/abi.NoEscape", "internal/bytealg.MakeNoZero", "maps.clone"], unfollowed := true, recurses := true, apart := false, narrowed := true }
def PagesCallsUptoSaid : Prop := pagesCallsUptoRow.holds Tryz.pinned (OpenSpec.upto pagesCallsSpec)

/-- 'groynelaw07.PagesSurvive', WHERE WHAT IT READS IS OF BULK AT MOST 1048576: true; the input reads as it did. -/
def pagesSurviveUptoRow : OpenClaim := { program := "ytbmhkdcmepfmbaagreat", sum := "35d4e505c6d57d8552dd57bdab3ed79162a3ec05a7115859eb0a4922f746be0f", func := "groyne/groynelaw07.PagesSurvive", spec := "pagesSurvive", inPlace := ["internal/abi.NoEscape", "internal/bytealg.MakeNoZero", "maps.clone"], unfollowed := true, recurses := true, apart := false, narrowed := true }
def PagesSurviveUptoSaid : Prop := pagesSurviveUptoRow.holds Tryz.pinned (OpenSpec.upto pagesSurviveSpec)

end Rows
end Go.Proofs.YtbmhkdcmepfmbaaGreat
