/- How much the acts handed in hold together. -/
import Derived.Test.YtpgpncngamagdaaOA
import Derived.Test.YtpgpncngamagdaaPZ
import Derived.Test.YtpgpncngamagdaaCB
set_option linter.unusedVariables false
namespace Go.Proofs.Ytpgpncngamagdaa
open Go.RowKit
theorem bulk_in {H : Type} {d : DataW H} : ∀ {ds : List (DataW H)}, d ∈ ds → Rows.uptoBulk d ≤ Rows.uptoBulkAll ds
  | e :: r, hd => by
    simp only [Rows.uptoBulkAll]
    rcases List.mem_cons.1 hd with rfl | hd
    · omega
    · have := bulk_in hd; omega
theorem bulk_len {H : Type} : ∀ (ds : List (DataW H)), ds.length ≤ Rows.uptoBulkAll ds
  | [] => by simp
  | d :: r => by
    have h1 := bulk_len r
    have h2 : 1 ≤ Rows.uptoBulk d := by
      cases d with
      | lit x => cases x <;> simp [Rows.uptoBulk]
      | _ => simp [Rows.uptoBulk]
    simp only [Rows.uptoBulkAll, List.length_cons]
    omega
theorem bulk_bytes {H : Type} (d : DataW H) : (bytesOf d).length ≤ Rows.uptoBulk d := by
  unfold bytesOf
  split
  · rename_i el sp
    have := bulk_len el
    simp only [Rows.uptoBulk, List.length_map]; omega
  · simp
theorem bulk_act {H : Type} (d : DataW H) : (actOf d).da.length ≤ Rows.uptoBulk d := by
  unfold actOf
  split
  · rename_i d0 d1 d2 d3 d4
    have := bulk_bytes d4
    simp only [Rows.uptoBulk, Rows.uptoBulkAll]; omega
  · simp
theorem bulk_acts {H : Type} (d : DataW H) : smd (actsOf d) ≤ Rows.uptoBulk d := by
  have key : ∀ ds : List (DataW H), smd (ds.map actOf) ≤ Rows.uptoBulkAll ds := by
    intro ds
    induction ds with
    | nil => simp [smd]
    | cons d r ih =>
      have h2 := bulk_act d
      simp only [Rows.uptoBulkAll, smd, List.map_cons, List.sum_cons] at ih ⊢
      omega
  unfold actsOf
  split
  · rename_i el sp
    have := key el
    simp only [Rows.uptoBulk]; omega
  · simp [smd]
end Go.Proofs.Ytpgpncngamagdaa
