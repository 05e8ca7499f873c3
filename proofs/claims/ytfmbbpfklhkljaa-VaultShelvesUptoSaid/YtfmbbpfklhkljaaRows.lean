/-
  No cell of these rows narrows 'for every input' (looked for: loops, veiled, ifaces, maps, wideKeys, modest, calm, conditions, laid).
  DERIVED. THE GIVEN ROWS OF THIS SEAT. 9 by the template 'for every input the law returns true; each argument reads behind the call as it read before'; 0 by the template 'total and deterministic' (their statements: YtfmbbpfklhkljaaTotals.lean).
  GIVEN WITH THE SEED: the statements are not yours to turn. If you find one false, say at which input.
  Laid BY PROGRAM, IN A SANDBOX (cutbox-rows.mjs): the forced cells as the released guide's own fill.sh prints them over the translation bdaecc107b25c831… (all of the seat's roots in one cut). By AI agents, Wed Nov 11 2026. No macro, syntax, notation, axiom, sorry.
-/
import Derived.Test.YtfmbbpfklhkljaaChecked
import GoSem.Claim
import GoSem.ClaimJoined
import GoSem.ClaimMapViews
import Derived.JoinedTies
import Derived.KernelRfl
namespace Go.Proofs.Ytfmbbpfklhkljaa
/- THE CELL 'sum', in the pinned program and in every row, IS THE sha256 OF THE DUMP (.gsa) THAT YtfmbbpfklhkljaaProg.lean LOADS. Nothing in Lean hashes anything: it is a label: what it is worth is what the hold of that sum in a sandbox is worth. -/
noncomputable def Try.pinned : Pinned := { name := "ytfmbbpfklhkljaa", sum := "bdaecc107b25c831660867df111b1fd4632232c692da8fe52bbe99604baa9088", checked := Try.checked }
namespace Rows
def none {H : Type} : Left H := { results := [], args := [] }

/-- 'groynelaw10.VaultNumbers': WHATEVER THE INPUT: true; the input reads as it did. -/
def vaultNumbersSpec : ChangeSpec := { name := "vaultNumbers", fn := fun _ => fun
  | [d1, d2, d3] => { results := [.lit (.bool true)], args := [d1, d2, d3] }
  | _ => none }
def vaultNumbersRow : OpenClaim := { program := "ytfmbbpfklhkljaa", sum := "bdaecc107b25c831660867df111b1fd4632232c692da8fe52bbe99604baa9088", func := "groyne/groynelaw10.VaultNumbers", spec := "vaultNumbers", inPlace := ["internal/bytealg.IndexByteString"], apart := false }
def VaultNumbersSaid : Prop := vaultNumbersRow.holds Try.pinned (OpenSpec.ofChange vaultNumbersSpec)

/-- ITS FALSE NEIGHBOUR: 'it returns false'. Refute it at one input. -/
def vaultNumbersWrong : ChangeSpec := { name := "vaultNumbers", fn := fun _ => fun
  | [d1, d2, d3] => { results := [.lit (.bool false)], args := [d1, d2, d3] }
  | _ => none }
def VaultNumbersWrongFalsely : Prop := vaultNumbersRow.holds Try.pinned (OpenSpec.ofChange vaultNumbersWrong)

/-- 'groynelaw08.LeafPages': WHATEVER THE INPUT: true; the input reads as it did. -/
def leafPagesSpec : ChangeSpec := { name := "leafPages", fn := fun _ => fun
  | [d1, d2] => { results := [.lit (.bool true)], args := [d1, d2] }
  | _ => none }
def leafPagesRow : OpenClaim := { program := "ytfmbbpfklhkljaa", sum := "bdaecc107b25c831660867df111b1fd4632232c692da8fe52bbe99604baa9088", func := "groyne/groynelaw08.LeafPages", spec := "leafPages", inPlace := ["internal/bytealg.Compare"], unfollowed := true, recurses := true, apart := false }
def LeafPagesSaid : Prop := leafPagesRow.holds Try.pinned (OpenSpec.ofChange leafPagesSpec)

/-- ITS FALSE NEIGHBOUR: 'it returns false'. Refute it at one input. -/
def leafPagesWrong : ChangeSpec := { name := "leafPages", fn := fun _ => fun
  | [d1, d2] => { results := [.lit (.bool false)], args := [d1, d2] }
  | _ => none }
def LeafPagesWrongFalsely : Prop := leafPagesRow.holds Try.pinned (OpenSpec.ofChange leafPagesWrong)

/-- 'groynelaw08.LeafSplits': WHATEVER THE INPUT: true; the input reads as it did. -/
def leafSplitsSpec : ChangeSpec := { name := "leafSplits", fn := fun _ => fun
  | [d] => { results := [.lit (.bool true)], args := [d] }
  | _ => none }
def leafSplitsRow : OpenClaim := { program := "ytfmbbpfklhkljaa", sum := "bdaecc107b25c831660867df111b1fd4632232c692da8fe52bbe99604baa9088", func := "groyne/groynelaw08.LeafSplits", spec := "leafSplits", inPlace := ["internal/bytealg.Compare"], unfollowed := true, recurses := true, apart := false }
def LeafSplitsSaid : Prop := leafSplitsRow.holds Try.pinned (OpenSpec.ofChange leafSplitsSpec)

/-- ITS FALSE NEIGHBOUR: 'it returns false'. Refute it at one input. -/
def leafSplitsWrong : ChangeSpec := { name := "leafSplits", fn := fun _ => fun
  | [d] => { results := [.lit (.bool false)], args := [d] }
  | _ => none }
def LeafSplitsWrongFalsely : Prop := leafSplitsRow.holds Try.pinned (OpenSpec.ofChange leafSplitsWrong)

/-- 'groynelaw08.LeafFinds': WHATEVER THE INPUT: true; the input reads as it did. -/
def leafFindsSpec : ChangeSpec := { name := "leafFinds", fn := fun _ => fun
  | [d1, d2, d3] => { results := [.lit (.bool true)], args := [d1, d2, d3] }
  | _ => none }
def leafFindsRow : OpenClaim := { program := "ytfmbbpfklhkljaa", sum := "bdaecc107b25c831660867df111b1fd4632232c692da8fe52bbe99604baa9088", func := "groyne/groynelaw08.LeafFinds", spec := "leafFinds", inPlace := ["internal/bytealg.Compare", "slices.overlaps[[]byte]"], unfollowed := true, recurses := true, apart := false }
def LeafFindsSaid : Prop := leafFindsRow.holds Try.pinned (OpenSpec.ofChange leafFindsSpec)

/-- ITS FALSE NEIGHBOUR: 'it returns false'. Refute it at one input. -/
def leafFindsWrong : ChangeSpec := { name := "leafFinds", fn := fun _ => fun
  | [d1, d2, d3] => { results := [.lit (.bool false)], args := [d1, d2, d3] }
  | _ => none }
def LeafFindsWrongFalsely : Prop := leafFindsRow.holds Try.pinned (OpenSpec.ofChange leafFindsWrong)

/-- 'groynelaw08.LeafBuilds': WHATEVER THE INPUT: true; the input reads as it did. -/
def leafBuildsSpec : ChangeSpec := { name := "leafBuilds", fn := fun _ => fun
  | [d1, d2] => { results := [.lit (.bool true)], args := [d1, d2] }
  | _ => none }
def leafBuildsRow : OpenClaim := { program := "ytfmbbpfklhkljaa", sum := "bdaecc107b25c831660867df111b1fd4632232c692da8fe52bbe99604baa9088", func := "groyne/groynelaw08.LeafBuilds", spec := "leafBuilds", inPlace := ["internal/bytealg.Compare", "slices.overlaps[[]byte]"], unfollowed := true, recurses := true, apart := false }
def LeafBuildsSaid : Prop := leafBuildsRow.holds Try.pinned (OpenSpec.ofChange leafBuildsSpec)

/-- ITS FALSE NEIGHBOUR: 'it returns false'. Refute it at one input. -/
def leafBuildsWrong : ChangeSpec := { name := "leafBuilds", fn := fun _ => fun
  | [d1, d2] => { results := [.lit (.bool false)], args := [d1, d2] }
  | _ => none }
def LeafBuildsWrongFalsely : Prop := leafBuildsRow.holds Try.pinned (OpenSpec.ofChange leafBuildsWrong)

/-- 'groynelaw08.LeafKeeps': WHATEVER THE INPUT: true; the input reads as it did. -/
def leafKeepsSpec : ChangeSpec := { name := "leafKeeps", fn := fun _ => fun
  | [d1, d2] => { results := [.lit (.bool true)], args := [d1, d2] }
  | _ => none }
def leafKeepsRow : OpenClaim := { program := "ytfmbbpfklhkljaa", sum := "bdaecc107b25c831660867df111b1fd4632232c692da8fe52bbe99604baa9088", func := "groyne/groynelaw08.LeafKeeps", spec := "leafKeeps", inPlace := ["internal/bytealg.Compare", "slices.overlaps[[]byte]"], unfollowed := true, recurses := true, apart := false }
def LeafKeepsSaid : Prop := leafKeepsRow.holds Try.pinned (OpenSpec.ofChange leafKeepsSpec)

/-- ITS FALSE NEIGHBOUR: 'it returns false'. Refute it at one input. -/
def leafKeepsWrong : ChangeSpec := { name := "leafKeeps", fn := fun _ => fun
  | [d1, d2] => { results := [.lit (.bool false)], args := [d1, d2] }
  | _ => none }
def LeafKeepsWrongFalsely : Prop := leafKeepsRow.holds Try.pinned (OpenSpec.ofChange leafKeepsWrong)

/-- 'groynelaw10.VaultKeeps': WHATEVER THE INPUT: true; the input reads as it did. -/
def vaultKeepsSpec : ChangeSpec := { name := "vaultKeeps", fn := fun _ => fun
  | [d] => { results := [.lit (.bool true)], args := [d] }
  | _ => none }
def vaultKeepsRow : OpenClaim := { program := "ytfmbbpfklhkljaa", sum := "bdaecc107b25c831660867df111b1fd4632232c692da8fe52bbe99604baa9088", func := "groyne/groynelaw10.VaultKeeps", spec := "vaultKeeps", unfollowed := true, recurses := true, apart := false }
def VaultKeepsSaid : Prop := vaultKeepsRow.holds Try.pinned (OpenSpec.ofChange vaultKeepsSpec)

/-- ITS FALSE NEIGHBOUR: 'it returns false'. Refute it at one input. -/
def vaultKeepsWrong : ChangeSpec := { name := "vaultKeeps", fn := fun _ => fun
  | [d] => { results := [.lit (.bool false)], args := [d] }
  | _ => none }
def VaultKeepsWrongFalsely : Prop := vaultKeepsRow.holds Try.pinned (OpenSpec.ofChange vaultKeepsWrong)

/-- 'groynelaw10.VaultCalls': WHATEVER THE INPUT: true; the input reads as it did. -/
def vaultCallsSpec : ChangeSpec := { name := "vaultCalls", fn := fun _ => fun
  | [d] => { results := [.lit (.bool true)], args := [d] }
  | _ => none }
def vaultCallsRow : OpenClaim := { program := "ytfmbbpfklhkljaa", sum := "bdaecc107b25c831660867df111b1fd4632232c692da8fe52bbe99604baa9088", func := "groyne/groynelaw10.VaultCalls", spec := "vaultCalls", unfollowed := true, recurses := true, apart := false }
def VaultCallsSaid : Prop := vaultCallsRow.holds Try.pinned (OpenSpec.ofChange vaultCallsSpec)

/-- ITS FALSE NEIGHBOUR: 'it returns false'. Refute it at one input. -/
def vaultCallsWrong : ChangeSpec := { name := "vaultCalls", fn := fun _ => fun
  | [d] => { results := [.lit (.bool false)], args := [d] }
  | _ => none }
def VaultCallsWrongFalsely : Prop := vaultCallsRow.holds Try.pinned (OpenSpec.ofChange vaultCallsWrong)

/-- 'groynelaw10.VaultShelves': WHATEVER THE INPUT: true; the input reads as it did. -/
def vaultShelvesSpec : ChangeSpec := { name := "vaultShelves", fn := fun _ => fun
  | [d1, d2, d3] => { results := [.lit (.bool true)], args := [d1, d2, d3] }
  | _ => none }
def vaultShelvesRow : OpenClaim := { program := "ytfmbbpfklhkljaa", sum := "bdaecc107b25c831660867df111b1fd4632232c692da8fe52bbe99604baa9088", func := "groyne/groynelaw10.VaultShelves", spec := "vaultShelves", inPlace := ["internal/abi.NoEscape", "internal/bytealg.MakeNoZero"], unfollowed := true, recurses := true, apart := false }
def VaultShelvesSaid : Prop := vaultShelvesRow.holds Try.pinned (OpenSpec.ofChange vaultShelvesSpec)

/-- ITS FALSE NEIGHBOUR: 'it returns false'. Refute it at one input. -/
def vaultShelvesWrong : ChangeSpec := { name := "vaultShelves", fn := fun _ => fun
  | [d1, d2, d3] => { results := [.lit (.bool false)], args := [d1, d2, d3] }
  | _ => none }
def VaultShelvesWrongFalsely : Prop := vaultShelvesRow.holds Try.pinned (OpenSpec.ofChange vaultShelvesWrong)

/- THE SECOND FORM. 'bulk': how many values and letters a reading holds, each counted each time it is reached (what is shared counts as often as it is met; a slice's spare places count too). A statement '..UptoSaid' is the law's where the arguments, and the package variables that the reading takes, are together of bulk at most 1048576: NARROWER than '..Said'. Prove '..Said' where nothing that the law and all that it calls make is longer than what came in: it says more and counts as full. Else prove '..UptoSaid'. A law counts once. -/
mutual
def uptoBulk {H : Type} : DataW H → Nat
  | .lit (.string bytes) => bytes.length + 1
  | .lit _ => 1
  | .nil => 1
  | .ptr d => uptoBulk d + 1
  | .slice elems spare => uptoBulkAll elems + uptoBulkAll spare + 1
  | .agg parts => uptoBulkAll parts + 1
  | .iface _ d => uptoBulk d + 1
  | .map entries => uptoBulkEntries entries + 1
  | .held _ => 1
def uptoBulkAll {H : Type} : List (DataW H) → Nat
  | [] => 0
  | d :: r => uptoBulk d + uptoBulkAll r
def uptoBulkEntries {H : Type} : List (Lit × DataW H) → Nat
  | [] => 0
  | x :: r => uptoBulkEntry x + uptoBulkEntries r
def uptoBulkEntry {H : Type} : Lit × DataW H → Nat
  | (.string bytes, d) => bytes.length + uptoBulk d + 1
  | (_, d) => uptoBulk d + 1
 end
def uptoSmall : (H : Type) → List (DataW H) → Bool := fun _ ds => decide (uptoBulkAll ds ≤ 1048576)
def OpenSpec.upto (s : _root_.Go.ChangeSpec) : _root_.Go.OpenSpec := { _root_.Go.OpenSpec.ofChange s with cond := some uptoSmall }

/-- 'groynelaw10.VaultNumbers', WHERE WHAT IT READS IS OF BULK AT MOST 1048576: true; the input reads as it did. -/
def vaultNumbersUptoRow : OpenClaim := { program := "ytfmbbpfklhkljaa", sum := "bdaecc107b25c831660867df111b1fd4632232c692da8fe52bbe99604baa9088", func := "groyne/groynelaw10.VaultNumbers", spec := "vaultNumbers", inPlace := ["internal/bytealg.IndexByteString"], apart := false, narrowed := true }
def VaultNumbersUptoSaid : Prop := vaultNumbersUptoRow.holds Try.pinned (OpenSpec.upto vaultNumbersSpec)

/-- 'groynelaw08.LeafPages', WHERE WHAT IT READS IS OF BULK AT MOST 1048576: true; the input reads as it did. -/
def leafPagesUptoRow : OpenClaim := { program := "ytfmbbpfklhkljaa", sum := "bdaecc107b25c831660867df111b1fd4632232c692da8fe52bbe99604baa9088", func := "groyne/groynelaw08.LeafPages", spec := "leafPages", inPlace := ["internal/bytealg.Compare"], unfollowed := true, recurses := true, apart := false, narrowed := true }
def LeafPagesUptoSaid : Prop := leafPagesUptoRow.holds Try.pinned (OpenSpec.upto leafPagesSpec)

/-- 'groynelaw08.LeafSplits', WHERE WHAT IT READS IS OF BULK AT MOST 1048576: true; the input reads as it did. -/
def leafSplitsUptoRow : OpenClaim := { program := "ytfmbbpfklhkljaa", sum := "bdaecc107b25c831660867df111b1fd4632232c692da8fe52bbe99604baa9088", func := "groyne/groynelaw08.LeafSplits", spec := "leafSplits", inPlace := ["internal/bytealg.Compare"], unfollowed := true, recurses := true, apart := false, narrowed := true }
def LeafSplitsUptoSaid : Prop := leafSplitsUptoRow.holds Try.pinned (OpenSpec.upto leafSplitsSpec)

/-- 'groynelaw08.LeafFinds', WHERE WHAT IT READS IS OF BULK AT MOST 1048576: true; the input reads as it did. -/
def leafFindsUptoRow : OpenClaim := { program := "ytfmbbpfklhkljaa", sum := "bdaecc107b25c831660867df111b1fd4632232c692da8fe52bbe99604baa9088", func := "groyne/groynelaw08.LeafFinds", spec := "leafFinds", inPlace := ["internal/bytealg.Compare", "slices.overlaps[[]byte]"], unfollowed := true, recurses := true, apart := false, narrowed := true }
def LeafFindsUptoSaid : Prop := leafFindsUptoRow.holds Try.pinned (OpenSpec.upto leafFindsSpec)

/-- 'groynelaw08.LeafBuilds', WHERE WHAT IT READS IS OF BULK AT MOST 1048576: true; the input reads as it did. -/
def leafBuildsUptoRow : OpenClaim := { program := "ytfmbbpfklhkljaa", sum := "bdaecc107b25c831660867df111b1fd4632232c692da8fe52bbe99604baa9088", func := "groyne/groynelaw08.LeafBuilds", spec := "leafBuilds", inPlace := ["internal/bytealg.Compare", "slices.overlaps[[]byte]"], unfollowed := true, recurses := true, apart := false, narrowed := true }
def LeafBuildsUptoSaid : Prop := leafBuildsUptoRow.holds Try.pinned (OpenSpec.upto leafBuildsSpec)

/-- 'groynelaw08.LeafKeeps', WHERE WHAT IT READS IS OF BULK AT MOST 1048576: true; the input reads as it did. -/
def leafKeepsUptoRow : OpenClaim := { program := "ytfmbbpfklhkljaa", sum := "bdaecc107b25c831660867df111b1fd4632232c692da8fe52bbe99604baa9088", func := "groyne/groynelaw08.LeafKeeps", spec := "leafKeeps", inPlace := ["internal/bytealg.Compare", "slices.overlaps[[]byte]"], unfollowed := true, recurses := true, apart := false, narrowed := true }
def LeafKeepsUptoSaid : Prop := leafKeepsUptoRow.holds Try.pinned (OpenSpec.upto leafKeepsSpec)

/-- 'groynelaw10.VaultKeeps', WHERE WHAT IT READS IS OF BULK AT MOST 1048576: true; the input reads as it did. -/
def vaultKeepsUptoRow : OpenClaim := { program := "ytfmbbpfklhkljaa", sum := "bdaecc107b25c831660867df111b1fd4632232c692da8fe52bbe99604baa9088", func := "groyne/groynelaw10.VaultKeeps", spec := "vaultKeeps", unfollowed := true, recurses := true, apart := false, narrowed := true }
def VaultKeepsUptoSaid : Prop := vaultKeepsUptoRow.holds Try.pinned (OpenSpec.upto vaultKeepsSpec)

/-- 'groynelaw10.VaultCalls', WHERE WHAT IT READS IS OF BULK AT MOST 1048576: true; the input reads as it did. -/
def vaultCallsUptoRow : OpenClaim := { program := "ytfmbbpfklhkljaa", sum := "bdaecc107b25c831660867df111b1fd4632232c692da8fe52bbe99604baa9088", func := "groyne/groynelaw10.VaultCalls", spec := "vaultCalls", unfollowed := true, recurses := true, apart := false, narrowed := true }
def VaultCallsUptoSaid : Prop := vaultCallsUptoRow.holds Try.pinned (OpenSpec.upto vaultCallsSpec)

/-- 'groynelaw10.VaultShelves', WHERE WHAT IT READS IS OF BULK AT MOST 1048576: true; the input reads as it did. -/
def vaultShelvesUptoRow : OpenClaim := { program := "ytfmbbpfklhkljaa", sum := "bdaecc107b25c831660867df111b1fd4632232c692da8fe52bbe99604baa9088", func := "groyne/groynelaw10.VaultShelves", spec := "vaultShelves", inPlace := ["internal/abi.NoEscape", "internal/bytealg.MakeNoZero"], unfollowed := true, recurses := true, apart := false, narrowed := true }
def VaultShelvesUptoSaid : Prop := vaultShelvesUptoRow.holds Try.pinned (OpenSpec.upto vaultShelvesSpec)

end Rows
end Go.Proofs.Ytfmbbpfklhkljaa
