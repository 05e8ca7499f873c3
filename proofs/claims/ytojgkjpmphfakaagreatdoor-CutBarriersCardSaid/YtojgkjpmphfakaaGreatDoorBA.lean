/- Closed facts of the translation that all rows use; the witness world. -/
import Derived.Test.YtojgkjpmphfakaaGreatDoorGL
import Derived.Test.YtojgkjpmphfakaaGreatDoorCards
import Derived.Test.YtojgkjpmphfakaaGreatDoorTie
import Derived.OpenShut
import Derived.Deep.DeepHandedRow
import Derived.Deep.DeepLaidRun
namespace Go.Proofs.YtojgkjpmphfakaaGreatDoor
set_option maxRecDepth 100000
theorem Tryz.laidOut : laidOutB Tryz.prog = true := by kernel_rfl
theorem Tryz.own : ownKnob Tryz.prog.godebug = none := by kernel_rfl
def leaf1 : DataW Unit → List Value
  | .lit (.int k x) => [.int k x]
  | _ => []
def leafs : DataW Unit → List Value
  | .agg l => l.flatMap fun
    | .agg m => m.flatMap leaf1
    | d => leaf1 d
  | _ => []
def putCells (h : Array Obj) (i : Nat) (cs : Array Value) : Array Obj := h.modify i fun
  | .cells _ t frozen => .cells cs t frozen
  | o => o
noncomputable def laidWorld (os : Os) (args : Array Value) : World :=
  { World.holding Tryz.prog os ⟨#[], args, []⟩ with
    heap := putCells (putCells (World.holding Tryz.prog os ⟨#[], args, []⟩).heap 1 (leafs Rows.laid_unicode_utf8_first).toArray) 2 (leafs Rows.laid_unicode_utf8_acceptRanges).toArray }
theorem laid_met (os : Os) (args : Array Value) : laidMet Tryz.prog [("unicode/utf8.acceptRanges", Rows.laid_unicode_utf8_acceptRanges), ("unicode/utf8.first", Rows.laid_unicode_utf8_first)] ((laidWorld os args).forCall (fun _ _ => 0) ⟨#[], args, []⟩).memory :=
  laidMet_of_run3 8 (by kernel_rfl) (by kernel_rfl) (by kernel_rfl)
end Go.Proofs.YtojgkjpmphfakaaGreatDoor
