/- Closed facts of the translation that all rows use. -/
import Derived.Test.YteejlmeinndlhaaGL
import Derived.Test.YteejlmeinndlhaaRows
namespace Go.Proofs.Yteejlmeinndlhaa
theorem Try.laidOut : laidOutB Try.prog = true := by kernel_rfl
theorem Try.own : ownKnob Try.prog.godebug = none := by kernel_rfl
end Go.Proofs.Yteejlmeinndlhaa
