/- Walks: the law's small ones. -/
import Derived.Test.YtahmihlpnlfefaaDoorL9
import Derived.Test.YtahmihlpnlfefaaDoorPN
set_option linter.unusedVariables false
set_option linter.unusedSimpArgs false
namespace Go.Proofs.YtahmihlpnlfefaaDoor
open Go.RowKit
open PL
set_option maxRecDepth 100000 in
set_option maxHeartbeats 1000000 in
/-- cut -/
theorem cut_any (s : List UInt8) (n : Nat) (hm : s.length ≤ maxLen) (hn : n ≤ 100000) (w : World) : Calls Tryd.prog 16 #[.string ⟨s.toArray⟩, .int .i64 (n : Int)] w fun e w' => e = .returned (.string ⟨(s.take n).toArray⟩) ∧ w = w' := by
  unfold maxLen at hm
  have ht := ba_take s n
  have hn' : (n : Int) ≤ 100000 := by omega
  have hn0 : (0 : Int) ≤ (n : Int) := by omega
  by_cases h : n < s.length
  · have h1 : (n : Int) < (s.length : Int) := by omega
    have h2 : (n : Int) ≤ (s.length : Int) := by omega
    go_enter Tryd.func16, Tryd.ntmps16
    go_wp2_with fail
    go_ret
    exact ⟨rfl, rfl⟩
  · have h1 : (s.length : Int) ≤ (n : Int) := by omega
    go_enter Tryd.func16, Tryd.ntmps16
    go_wp2_with fail
    go_ret
    exact ⟨ret_s (by rw [List.take_of_length_le (by omega)]), rfl⟩
theorem nx9 : nextO [98, 57] = some [98, 49, 48] := by decide
theorem vb1 : validB [98, 45, 49] = true := by decide
theorem cm9 : comp [98, 57] [98, 49, 48] = -1 := by
  have := next_after [98, 57] (by decide)
  have h : nextR [98, 57] = [98, 49, 48] := by decide
  rw [h] at this; exact this
end Go.Proofs.YtahmihlpnlfefaaDoor
