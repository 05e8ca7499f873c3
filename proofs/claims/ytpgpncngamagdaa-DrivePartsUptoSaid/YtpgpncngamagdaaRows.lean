/-
  No cell of these rows narrows 'for every input' (looked for: loops, veiled, ifaces, maps, wideKeys, modest, calm, conditions, laid).
  DERIVED. THE GIVEN ROWS OF THIS SEAT. 7 by the template 'for every input the law returns true; each argument reads behind the call as it read before'; 0 by the template 'total and deterministic' (their statements: YtpgpncngamagdaaTotals.lean).
  GIVEN WITH THE SEED: the statements are not yours to turn. If you find one false, say at which input.
  Laid BY PROGRAM, IN A SANDBOX (cutbox-rows.mjs): the forced cells as the released guide's own fill.sh prints them over the translation 1c7e24e7cefd1240… (all of the seat's roots in one cut). By AI agents, Wed Nov 11 2026. No macro, syntax, notation, axiom, sorry.
-/
import Derived.Test.YtpgpncngamagdaaChecked
import GoSem.Claim
import GoSem.ClaimJoined
import GoSem.ClaimMapViews
import Derived.JoinedTies
import Derived.KernelRfl
namespace Go.Proofs.Ytpgpncngamagdaa
/- THE CELL 'sum', in the pinned program and in every row, IS THE sha256 OF THE DUMP (.gsa) THAT YtpgpncngamagdaaProg.lean LOADS. Nothing in Lean hashes anything: it is a label: what it is worth is what the hold of that sum in a sandbox is worth. -/
noncomputable def Try.pinned : Pinned := { name := "ytpgpncngamagdaa", sum := "1c7e24e7cefd12405d303ffc274dcaf08637ad45d5cfeeac3890479fd8ea719b", checked := Try.checked }
namespace Rows
def none {H : Type} : Left H := { results := [], args := [] }

/-- 'groynelaw04.DriveKeeps': WHATEVER THE INPUT: true; the input reads as it did. -/
def driveKeepsSpec : ChangeSpec := { name := "driveKeeps", fn := fun _ => fun
  | [d1, d2] => { results := [.lit (.bool true)], args := [d1, d2] }
  | _ => none }
def driveKeepsRow : OpenClaim := { program := "ytpgpncngamagdaa", sum := "1c7e24e7cefd12405d303ffc274dcaf08637ad45d5cfeeac3890479fd8ea719b", func := "groyne/groynelaw04.DriveKeeps", spec := "driveKeeps", inPlace := ["maps.clone"], unfollowed := true, recurses := true, apart := false }
def DriveKeepsSaid : Prop := driveKeepsRow.holds Try.pinned (OpenSpec.ofChange driveKeepsSpec)

/-- ITS FALSE NEIGHBOUR: 'it returns false'. Refute it at one input. -/
def driveKeepsWrong : ChangeSpec := { name := "driveKeeps", fn := fun _ => fun
  | [d1, d2] => { results := [.lit (.bool false)], args := [d1, d2] }
  | _ => none }
def DriveKeepsWrongFalsely : Prop := driveKeepsRow.holds Try.pinned (OpenSpec.ofChange driveKeepsWrong)

/-- 'groynelaw04.DrivePlays': WHATEVER THE INPUT: true; the input reads as it did. -/
def drivePlaysSpec : ChangeSpec := { name := "drivePlays", fn := fun _ => fun
  | [d1, d2] => { results := [.lit (.bool true)], args := [d1, d2] }
  | _ => none }
def drivePlaysRow : OpenClaim := { program := "ytpgpncngamagdaa", sum := "1c7e24e7cefd12405d303ffc274dcaf08637ad45d5cfeeac3890479fd8ea719b", func := "groyne/groynelaw04.DrivePlays", spec := "drivePlays", inPlace := ["maps.clone"], unfollowed := true, recurses := true, apart := false }
def DrivePlaysSaid : Prop := drivePlaysRow.holds Try.pinned (OpenSpec.ofChange drivePlaysSpec)

/-- ITS FALSE NEIGHBOUR: 'it returns false'. Refute it at one input. -/
def drivePlaysWrong : ChangeSpec := { name := "drivePlays", fn := fun _ => fun
  | [d1, d2] => { results := [.lit (.bool false)], args := [d1, d2] }
  | _ => none }
def DrivePlaysWrongFalsely : Prop := drivePlaysRow.holds Try.pinned (OpenSpec.ofChange drivePlaysWrong)

/-- 'groynelaw04.DriveRooms': WHATEVER THE INPUT: true; the input reads as it did. -/
def driveRoomsSpec : ChangeSpec := { name := "driveRooms", fn := fun _ => fun
  | [d1, d2] => { results := [.lit (.bool true)], args := [d1, d2] }
  | _ => none }
def driveRoomsRow : OpenClaim := { program := "ytpgpncngamagdaa", sum := "1c7e24e7cefd12405d303ffc274dcaf08637ad45d5cfeeac3890479fd8ea719b", func := "groyne/groynelaw04.DriveRooms", spec := "driveRooms", inPlace := ["maps.clone"], unfollowed := true, recurses := true, apart := false }
def DriveRoomsSaid : Prop := driveRoomsRow.holds Try.pinned (OpenSpec.ofChange driveRoomsSpec)

/-- ITS FALSE NEIGHBOUR: 'it returns false'. Refute it at one input. -/
def driveRoomsWrong : ChangeSpec := { name := "driveRooms", fn := fun _ => fun
  | [d1, d2] => { results := [.lit (.bool false)], args := [d1, d2] }
  | _ => none }
def DriveRoomsWrongFalsely : Prop := driveRoomsRow.holds Try.pinned (OpenSpec.ofChange driveRoomsWrong)

/-- 'groynelaw04.DriveClears': WHATEVER THE INPUT: true; the input reads as it did. -/
def driveClearsSpec : ChangeSpec := { name := "driveClears", fn := fun _ => fun
  | [d1, d2, d3] => { results := [.lit (.bool true)], args := [d1, d2, d3] }
  | _ => none }
def driveClearsRow : OpenClaim := { program := "ytpgpncngamagdaa", sum := "1c7e24e7cefd12405d303ffc274dcaf08637ad45d5cfeeac3890479fd8ea719b", func := "groyne/groynelaw04.DriveClears", spec := "driveClears", inPlace := ["maps.clone"], unfollowed := true, recurses := true, apart := false }
def DriveClearsSaid : Prop := driveClearsRow.holds Try.pinned (OpenSpec.ofChange driveClearsSpec)

/-- ITS FALSE NEIGHBOUR: 'it returns false'. Refute it at one input. -/
def driveClearsWrong : ChangeSpec := { name := "driveClears", fn := fun _ => fun
  | [d1, d2, d3] => { results := [.lit (.bool false)], args := [d1, d2, d3] }
  | _ => none }
def DriveClearsWrongFalsely : Prop := driveClearsRow.holds Try.pinned (OpenSpec.ofChange driveClearsWrong)

/-- 'groynelaw04.DriveCrashes': WHATEVER THE INPUT: true; the input reads as it did. -/
def driveCrashesSpec : ChangeSpec := { name := "driveCrashes", fn := fun _ => fun
  | [d1, d2, d3] => { results := [.lit (.bool true)], args := [d1, d2, d3] }
  | _ => none }
def driveCrashesRow : OpenClaim := { program := "ytpgpncngamagdaa", sum := "1c7e24e7cefd12405d303ffc274dcaf08637ad45d5cfeeac3890479fd8ea719b", func := "groyne/groynelaw04.DriveCrashes", spec := "driveCrashes", inPlace := ["maps.clone"], unfollowed := true, recurses := true, apart := false }
def DriveCrashesSaid : Prop := driveCrashesRow.holds Try.pinned (OpenSpec.ofChange driveCrashesSpec)

/-- ITS FALSE NEIGHBOUR: 'it returns false'. Refute it at one input. -/
def driveCrashesWrong : ChangeSpec := { name := "driveCrashes", fn := fun _ => fun
  | [d1, d2, d3] => { results := [.lit (.bool false)], args := [d1, d2, d3] }
  | _ => none }
def DriveCrashesWrongFalsely : Prop := driveCrashesRow.holds Try.pinned (OpenSpec.ofChange driveCrashesWrong)

/-- 'groynelaw04.DriveReplaces': WHATEVER THE INPUT: true; the input reads as it did. -/
def driveReplacesSpec : ChangeSpec := { name := "driveReplaces", fn := fun _ => fun
  | [d1, d2, d3] => { results := [.lit (.bool true)], args := [d1, d2, d3] }
  | _ => none }
def driveReplacesRow : OpenClaim := { program := "ytpgpncngamagdaa", sum := "1c7e24e7cefd12405d303ffc274dcaf08637ad45d5cfeeac3890479fd8ea719b", func := "groyne/groynelaw04.DriveReplaces", spec := "driveReplaces", inPlace := ["maps.clone"], unfollowed := true, recurses := true, apart := false }
def DriveReplacesSaid : Prop := driveReplacesRow.holds Try.pinned (OpenSpec.ofChange driveReplacesSpec)

/-- ITS FALSE NEIGHBOUR: 'it returns false'. Refute it at one input. -/
def driveReplacesWrong : ChangeSpec := { name := "driveReplaces", fn := fun _ => fun
  | [d1, d2, d3] => { results := [.lit (.bool false)], args := [d1, d2, d3] }
  | _ => none }
def DriveReplacesWrongFalsely : Prop := driveReplacesRow.holds Try.pinned (OpenSpec.ofChange driveReplacesWrong)

/-- 'groynelaw04.DriveParts': WHATEVER THE INPUT: true; the input reads as it did. -/
def drivePartsSpec : ChangeSpec := { name := "driveParts", fn := fun _ => fun
  | [d1, d2, d3] => { results := [.lit (.bool true)], args := [d1, d2, d3] }
  | _ => none }
def drivePartsRow : OpenClaim := { program := "ytpgpncngamagdaa", sum := "1c7e24e7cefd12405d303ffc274dcaf08637ad45d5cfeeac3890479fd8ea719b", func := "groyne/groynelaw04.DriveParts", spec := "driveParts", inPlace := ["maps.clone", "internal/abi.NoEscape", "internal/bytealg.MakeNoZero"], unfollowed := true, recurses := true, apart := false }
def DrivePartsSaid : Prop := drivePartsRow.holds Try.pinned (OpenSpec.ofChange drivePartsSpec)

/-- ITS FALSE NEIGHBOUR: 'it returns false'. Refute it at one input. -/
def drivePartsWrong : ChangeSpec := { name := "driveParts", fn := fun _ => fun
  | [d1, d2, d3] => { results := [.lit (.bool false)], args := [d1, d2, d3] }
  | _ => none }
def DrivePartsWrongFalsely : Prop := drivePartsRow.holds Try.pinned (OpenSpec.ofChange drivePartsWrong)

/- THE SECOND FORM. 'bulk': how many values and letters a reading holds, each counted each time it is reached (what is shared counts as often as it is met; a slice's spare places count too). A statement '..UptoSaid' is the law's where the arguments, and the package variables that the reading takes, are together of bulk at most 1048576: NARROWER than '..Said'. Prove '..Said' where nothing that the law and all that it calls make is longer than what came in: it says more and counts as full. Else prove '..UptoSaid'. A law counts once. -/
mutual
def uptoBulk {H : Type} : DataW H → Nat
  | .lit (.string bytes) => bytes.length + 1
  | .lit _ => 1
  | .nil => 1
  | .ptr d => uptoBulk d + 1
  | .slice elems spare => uptoBulkAll elems + uptoBulkAll spare + 1
  | .agg parts => uptoBulkAll parts + 1
  | .iface _ d => uptoBulk d + 1
  | .map entries => uptoBulkEntries entries + 1
  | .held _ => 1
def uptoBulkAll {H : Type} : List (DataW H) → Nat
  | [] => 0
  | d :: r => uptoBulk d + uptoBulkAll r
def uptoBulkEntries {H : Type} : List (Lit × DataW H) → Nat
  | [] => 0
  | x :: r => uptoBulkEntry x + uptoBulkEntries r
def uptoBulkEntry {H : Type} : Lit × DataW H → Nat
  | (.string bytes, d) => bytes.length + uptoBulk d + 1
  | (_, d) => uptoBulk d + 1
 end
def uptoSmall : (H : Type) → List (DataW H) → Bool := fun _ ds => decide (uptoBulkAll ds ≤ 1048576)
def OpenSpec.upto (s : _root_.Go.ChangeSpec) : _root_.Go.OpenSpec := { _root_.Go.OpenSpec.ofChange s with cond := some uptoSmall }

/-- 'groynelaw04.DriveKeeps', WHERE WHAT IT READS IS OF BULK AT MOST 1048576: true; the input reads as it did. -/
def driveKeepsUptoRow : OpenClaim := { program := "ytpgpncngamagdaa", sum := "1c7e24e7cefd12405d303ffc274dcaf08637ad45d5cfeeac3890479fd8ea719b", func := "groyne/groynelaw04.DriveKeeps", spec := "driveKeeps", inPlace := ["maps.clone"], unfollowed := true, recurses := true, apart := false, narrowed := true }
def DriveKeepsUptoSaid : Prop := driveKeepsUptoRow.holds Try.pinned (OpenSpec.upto driveKeepsSpec)

/-- 'groynelaw04.DrivePlays', WHERE WHAT IT READS IS OF BULK AT MOST 1048576: true; the input reads as it did. -/
def drivePlaysUptoRow : OpenClaim := { program := "ytpgpncngamagdaa", sum := "1c7e24e7cefd12405d303ffc274dcaf08637ad45d5cfeeac3890479fd8ea719b", func := "groyne/groynelaw04.DrivePlays", spec := "drivePlays", inPlace := ["maps.clone"], unfollowed := true, recurses := true, apart := false, narrowed := true }
def DrivePlaysUptoSaid : Prop := drivePlaysUptoRow.holds Try.pinned (OpenSpec.upto drivePlaysSpec)

/-- 'groynelaw04.DriveRooms', WHERE WHAT IT READS IS OF BULK AT MOST 1048576: true; the input reads as it did. -/
def driveRoomsUptoRow : OpenClaim := { program := "ytpgpncngamagdaa", sum := "1c7e24e7cefd12405d303ffc274dcaf08637ad45d5cfeeac3890479fd8ea719b", func := "groyne/groynelaw04.DriveRooms", spec := "driveRooms", inPlace := ["maps.clone"], unfollowed := true, recurses := true, apart := false, narrowed := true }
def DriveRoomsUptoSaid : Prop := driveRoomsUptoRow.holds Try.pinned (OpenSpec.upto driveRoomsSpec)

/-- 'groynelaw04.DriveClears', WHERE WHAT IT READS IS OF BULK AT MOST 1048576: true; the input reads as it did. -/
def driveClearsUptoRow : OpenClaim := { program := "ytpgpncngamagdaa", sum := "1c7e24e7cefd12405d303ffc274dcaf08637ad45d5cfeeac3890479fd8ea719b", func := "groyne/groynelaw04.DriveClears", spec := "driveClears", inPlace := ["maps.clone"], unfollowed := true, recurses := true, apart := false, narrowed := true }
def DriveClearsUptoSaid : Prop := driveClearsUptoRow.holds Try.pinned (OpenSpec.upto driveClearsSpec)

/-- 'groynelaw04.DriveCrashes', WHERE WHAT IT READS IS OF BULK AT MOST 1048576: true; the input reads as it did. -/
def driveCrashesUptoRow : OpenClaim := { program := "ytpgpncngamagdaa", sum := "1c7e24e7cefd12405d303ffc274dcaf08637ad45d5cfeeac3890479fd8ea719b", func := "groyne/groynelaw04.DriveCrashes", spec := "driveCrashes", inPlace := ["maps.clone"], unfollowed := true, recurses := true, apart := false, narrowed := true }
def DriveCrashesUptoSaid : Prop := driveCrashesUptoRow.holds Try.pinned (OpenSpec.upto driveCrashesSpec)

/-- 'groynelaw04.DriveReplaces', WHERE WHAT IT READS IS OF BULK AT MOST 1048576: true; the input reads as it did. -/
def driveReplacesUptoRow : OpenClaim := { program := "ytpgpncngamagdaa", sum := "1c7e24e7cefd12405d303ffc274dcaf08637ad45d5cfeeac3890479fd8ea719b", func := "groyne/groynelaw04.DriveReplaces", spec := "driveReplaces", inPlace := ["maps.clone"], unfollowed := true, recurses := true, apart := false, narrowed := true }
def DriveReplacesUptoSaid : Prop := driveReplacesUptoRow.holds Try.pinned (OpenSpec.upto driveReplacesSpec)

/-- 'groynelaw04.DriveParts', WHERE WHAT IT READS IS OF BULK AT MOST 1048576: true; the input reads as it did. -/
def drivePartsUptoRow : OpenClaim := { program := "ytpgpncngamagdaa", sum := "1c7e24e7cefd12405d303ffc274dcaf08637ad45d5cfeeac3890479fd8ea719b", func := "groyne/groynelaw04.DriveParts", spec := "driveParts", inPlace := ["maps.clone", "internal/abi.NoEscape", "internal/bytealg.MakeNoZero"], unfollowed := true, recurses := true, apart := false, narrowed := true }
def DrivePartsUptoSaid : Prop := drivePartsUptoRow.holds Try.pinned (OpenSpec.upto drivePartsSpec)

end Rows
end Go.Proofs.Ytpgpncngamagdaa
