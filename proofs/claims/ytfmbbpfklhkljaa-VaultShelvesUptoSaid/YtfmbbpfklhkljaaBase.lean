/- Closed facts of the translation that all rows use. -/
import Derived.Test.YtfmbbpfklhkljaaLaw
import Derived.Test.YtfmbbpfklhkljaaRows
namespace Go.Proofs.Ytfmbbpfklhkljaa
theorem Try.laidOut : laidOutB Try.prog = true := by kernel_rfl
theorem Try.own : ownKnob Try.prog.godebug = none := by kernel_rfl
end Go.Proofs.Ytfmbbpfklhkljaa
