/-
  No cell of these rows narrows 'for every input' (looked for: loops, veiled, ifaces, maps, wideKeys, modest, calm, conditions, laid).
  DERIVED. THE GIVEN ROWS OF THIS SEAT. 5 by the template 'for every input the law returns true; each argument reads behind the call as it read before'; 0 by the template 'total and deterministic' (their statements: YteejlmeinndlhaaTotals.lean).
  GIVEN WITH THE SEED: the statements are not yours to turn. If you find one false, say at which input.
  Laid BY PROGRAM, IN A SANDBOX (cutbox-rows.mjs): the forced cells as the released guide's own fill.sh prints them over the translation 9ae6e0d44a191f8d… (all of the seat's roots in one cut). By AI agents, Wed Nov 11 2026. No macro, syntax, notation, axiom, sorry.
-/
import Derived.Test.YteejlmeinndlhaaChecked
import GoSem.Claim
import GoSem.ClaimJoined
import GoSem.ClaimMapViews
import Derived.JoinedTies
import Derived.KernelRfl
namespace Go.Proofs.Yteejlmeinndlhaa
/- THE CELL 'sum', in the pinned program and in every row, IS THE sha256 OF THE DUMP (.gsa) THAT YteejlmeinndlhaaProg.lean LOADS. Nothing in Lean hashes anything: it is a label: what it is worth is what the hold of that sum in a sandbox is worth. -/
noncomputable def Try.pinned : Pinned := { name := "yteejlmeinndlhaa", sum := "9ae6e0d44a191f8d7b5d3b2e493640721f3d00fc3113699f504031e8ea6ba1c0", checked := Try.checked }
namespace Rows
def none {H : Type} : Left H := { results := [], args := [] }

/-- 'groynelaw11.LockOrders': WHATEVER THE INPUT: true; the input reads as it did. -/
def lockOrdersSpec : ChangeSpec := { name := "lockOrders", fn := fun _ => fun
  | [d1, d2, d3] => { results := [.lit (.bool true)], args := [d1, d2, d3] }
  | _ => none }
def lockOrdersRow : OpenClaim := { program := "yteejlmeinndlhaa", sum := "9ae6e0d44a191f8d7b5d3b2e493640721f3d00fc3113699f504031e8ea6ba1c0", func := "groyne/groynelaw11.LockOrders", spec := "lockOrders", inPlace := ["internal/bytealg.Compare"], unfollowed := true, recurses := true, plainKeys := false, apart := false }
def LockOrdersSaid : Prop := lockOrdersRow.holds Try.pinned (OpenSpec.ofChange lockOrdersSpec)

/-- ITS FALSE NEIGHBOUR: 'it returns false'. Refute it at one input. -/
def lockOrdersWrong : ChangeSpec := { name := "lockOrders", fn := fun _ => fun
  | [d1, d2, d3] => { results := [.lit (.bool false)], args := [d1, d2, d3] }
  | _ => none }
def LockOrdersWrongFalsely : Prop := lockOrdersRow.holds Try.pinned (OpenSpec.ofChange lockOrdersWrong)

/-- 'groynelaw11.LockCalls': WHATEVER THE INPUT: true; the input reads as it did. -/
def lockCallsSpec : ChangeSpec := { name := "lockCalls", fn := fun _ => fun
  | [d] => { results := [.lit (.bool true)], args := [d] }
  | _ => none }
def lockCallsRow : OpenClaim := { program := "yteejlmeinndlhaa", sum := "9ae6e0d44a191f8d7b5d3b2e493640721f3d00fc3113699f504031e8ea6ba1c0", func := "groyne/groynelaw11.LockCalls", spec := "lockCalls", inPlace := ["internal/bytealg.Compare"], unfollowed := true, recurses := true, plainKeys := false, apart := false }
def LockCallsSaid : Prop := lockCallsRow.holds Try.pinned (OpenSpec.ofChange lockCallsSpec)

/-- ITS FALSE NEIGHBOUR: 'it returns false'. Refute it at one input. -/
def lockCallsWrong : ChangeSpec := { name := "lockCalls", fn := fun _ => fun
  | [d] => { results := [.lit (.bool false)], args := [d] }
  | _ => none }
def LockCallsWrongFalsely : Prop := lockCallsRow.holds Try.pinned (OpenSpec.ofChange lockCallsWrong)

/-- 'groynelaw11.LockApart': WHATEVER THE INPUT: true; the input reads as it did. -/
def lockApartSpec : ChangeSpec := { name := "lockApart", fn := fun _ => fun
  | [d] => { results := [.lit (.bool true)], args := [d] }
  | _ => none }
def lockApartRow : OpenClaim := { program := "yteejlmeinndlhaa", sum := "9ae6e0d44a191f8d7b5d3b2e493640721f3d00fc3113699f504031e8ea6ba1c0", func := "groyne/groynelaw11.LockApart", spec := "lockApart", inPlace := ["internal/bytealg.Compare"], unfollowed := true, recurses := true, plainKeys := false, apart := false }
def LockApartSaid : Prop := lockApartRow.holds Try.pinned (OpenSpec.ofChange lockApartSpec)

/-- ITS FALSE NEIGHBOUR: 'it returns false'. Refute it at one input. -/
def lockApartWrong : ChangeSpec := { name := "lockApart", fn := fun _ => fun
  | [d] => { results := [.lit (.bool false)], args := [d] }
  | _ => none }
def LockApartWrongFalsely : Prop := lockApartRow.holds Try.pinned (OpenSpec.ofChange lockApartWrong)

/-- 'groynelaw11.LockKeeps': WHATEVER THE INPUT: true; the input reads as it did. -/
def lockKeepsSpec : ChangeSpec := { name := "lockKeeps", fn := fun _ => fun
  | [d1, d2] => { results := [.lit (.bool true)], args := [d1, d2] }
  | _ => none }
def lockKeepsRow : OpenClaim := { program := "yteejlmeinndlhaa", sum := "9ae6e0d44a191f8d7b5d3b2e493640721f3d00fc3113699f504031e8ea6ba1c0", func := "groyne/groynelaw11.LockKeeps", spec := "lockKeeps", inPlace := ["internal/bytealg.Compare"], unfollowed := true, recurses := true, plainKeys := false, apart := false }
def LockKeepsSaid : Prop := lockKeepsRow.holds Try.pinned (OpenSpec.ofChange lockKeepsSpec)

/-- ITS FALSE NEIGHBOUR: 'it returns false'. Refute it at one input. -/
def lockKeepsWrong : ChangeSpec := { name := "lockKeeps", fn := fun _ => fun
  | [d1, d2] => { results := [.lit (.bool false)], args := [d1, d2] }
  | _ => none }
def LockKeepsWrongFalsely : Prop := lockKeepsRow.holds Try.pinned (OpenSpec.ofChange lockKeepsWrong)

/-- 'groynelaw11.LockMirrors': WHATEVER THE INPUT: true; the input reads as it did. -/
def lockMirrorsSpec : ChangeSpec := { name := "lockMirrors", fn := fun _ => fun
  | [d1, d2, d3] => { results := [.lit (.bool true)], args := [d1, d2, d3] }
  | _ => none }
def lockMirrorsRow : OpenClaim := { program := "yteejlmeinndlhaa", sum := "9ae6e0d44a191f8d7b5d3b2e493640721f3d00fc3113699f504031e8ea6ba1c0", func := "groyne/groynelaw11.LockMirrors", spec := "lockMirrors", inPlace := ["internal/bytealg.Compare"], unfollowed := true, recurses := true, plainKeys := false, apart := false }
def LockMirrorsSaid : Prop := lockMirrorsRow.holds Try.pinned (OpenSpec.ofChange lockMirrorsSpec)

/-- ITS FALSE NEIGHBOUR: 'it returns false'. Refute it at one input. -/
def lockMirrorsWrong : ChangeSpec := { name := "lockMirrors", fn := fun _ => fun
  | [d1, d2, d3] => { results := [.lit (.bool false)], args := [d1, d2, d3] }
  | _ => none }
def LockMirrorsWrongFalsely : Prop := lockMirrorsRow.holds Try.pinned (OpenSpec.ofChange lockMirrorsWrong)

/- THE SECOND FORM. 'bulk': how many values and letters a reading holds, each counted each time it is reached (what is shared counts as often as it is met; a slice's spare places count too). A statement '..UptoSaid' is the law's where the arguments, and the package variables that the reading takes, are together of bulk at most 1048576: NARROWER than '..Said'. Prove '..Said' where nothing that the law and all that it calls make is longer than what came in: it says more and counts as full. Else prove '..UptoSaid'. A law counts once. -/
mutual
def uptoBulk {H : Type} : DataW H → Nat
  | .lit (.string bytes) => bytes.length + 1
  | .lit _ => 1
  | .nil => 1
  | .ptr d => uptoBulk d + 1
  | .slice elems spare => uptoBulkAll elems + uptoBulkAll spare + 1
  | .agg parts => uptoBulkAll parts + 1
  | .iface _ d => uptoBulk d + 1
  | .map entries => uptoBulkEntries entries + 1
  | .held _ => 1
def uptoBulkAll {H : Type} : List (DataW H) → Nat
  | [] => 0
  | d :: r => uptoBulk d + uptoBulkAll r
def uptoBulkEntries {H : Type} : List (Lit × DataW H) → Nat
  | [] => 0
  | x :: r => uptoBulkEntry x + uptoBulkEntries r
def uptoBulkEntry {H : Type} : Lit × DataW H → Nat
  | (.string bytes, d) => bytes.length + uptoBulk d + 1
  | (_, d) => uptoBulk d + 1
 end
def uptoSmall : (H : Type) → List (DataW H) → Bool := fun _ ds => decide (uptoBulkAll ds ≤ 1048576)
def OpenSpec.upto (s : _root_.Go.ChangeSpec) : _root_.Go.OpenSpec := { _root_.Go.OpenSpec.ofChange s with cond := some uptoSmall }

/-- 'groynelaw11.LockOrders', WHERE WHAT IT READS IS OF BULK AT MOST 1048576: true; the input reads as it did. -/
def lockOrdersUptoRow : OpenClaim := { program := "yteejlmeinndlhaa", sum := "9ae6e0d44a191f8d7b5d3b2e493640721f3d00fc3113699f504031e8ea6ba1c0", func := "groyne/groynelaw11.LockOrders", spec := "lockOrders", inPlace := ["internal/bytealg.Compare"], unfollowed := true, recurses := true, plainKeys := false, apart := false, narrowed := true }
def LockOrdersUptoSaid : Prop := lockOrdersUptoRow.holds Try.pinned (OpenSpec.upto lockOrdersSpec)

/-- 'groynelaw11.LockCalls', WHERE WHAT IT READS IS OF BULK AT MOST 1048576: true; the input reads as it did. -/
def lockCallsUptoRow : OpenClaim := { program := "yteejlmeinndlhaa", sum := "9ae6e0d44a191f8d7b5d3b2e493640721f3d00fc3113699f504031e8ea6ba1c0", func := "groyne/groynelaw11.LockCalls", spec := "lockCalls", inPlace := ["internal/bytealg.Compare"], unfollowed := true, recurses := true, plainKeys := false, apart := false, narrowed := true }
def LockCallsUptoSaid : Prop := lockCallsUptoRow.holds Try.pinned (OpenSpec.upto lockCallsSpec)

/-- 'groynelaw11.LockApart', WHERE WHAT IT READS IS OF BULK AT MOST 1048576: true; the input reads as it did. -/
def lockApartUptoRow : OpenClaim := { program := "yteejlmeinndlhaa", sum := "9ae6e0d44a191f8d7b5d3b2e493640721f3d00fc3113699f504031e8ea6ba1c0", func := "groyne/groynelaw11.LockApart", spec := "lockApart", inPlace := ["internal/bytealg.Compare"], unfollowed := true, recurses := true, plainKeys := false, apart := false, narrowed := true }
def LockApartUptoSaid : Prop := lockApartUptoRow.holds Try.pinned (OpenSpec.upto lockApartSpec)

/-- 'groynelaw11.LockKeeps', WHERE WHAT IT READS IS OF BULK AT MOST 1048576: true; the input reads as it did. -/
def lockKeepsUptoRow : OpenClaim := { program := "yteejlmeinndlhaa", sum := "9ae6e0d44a191f8d7b5d3b2e493640721f3d00fc3113699f504031e8ea6ba1c0", func := "groyne/groynelaw11.LockKeeps", spec := "lockKeeps", inPlace := ["internal/bytealg.Compare"], unfollowed := true, recurses := true, plainKeys := false, apart := false, narrowed := true }
def LockKeepsUptoSaid : Prop := lockKeepsUptoRow.holds Try.pinned (OpenSpec.upto lockKeepsSpec)

/-- 'groynelaw11.LockMirrors', WHERE WHAT IT READS IS OF BULK AT MOST 1048576: true; the input reads as it did. -/
def lockMirrorsUptoRow : OpenClaim := { program := "yteejlmeinndlhaa", sum := "9ae6e0d44a191f8d7b5d3b2e493640721f3d00fc3113699f504031e8ea6ba1c0", func := "groyne/groynelaw11.LockMirrors", spec := "lockMirrors", inPlace := ["internal/bytealg.Compare"], unfollowed := true, recurses := true, plainKeys := false, apart := false, narrowed := true }
def LockMirrorsUptoSaid : Prop := lockMirrorsUptoRow.holds Try.pinned (OpenSpec.upto lockMirrorsSpec)

end Rows
end Go.Proofs.Yteejlmeinndlhaa
