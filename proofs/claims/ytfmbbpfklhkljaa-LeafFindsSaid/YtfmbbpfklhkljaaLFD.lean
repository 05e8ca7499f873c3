/- For every node n (groyneref08.Node), every key ([]byte) and every place i (int) the law groynelaw08.LeafFinds returns true, and each argument reads afterwards as before. No condition. -/
import Derived.Test.YtfmbbpfklhkljaaBase
import Derived.Test.YtfmbbpfklhkljaaON
import Derived.Test.YtfmbbpfklhkljaaFL
import Derived.OpenShut
import Derived.Deep.DeepHandedRow
set_option linter.unusedVariables false
namespace Go.Proofs.Ytfmbbpfklhkljaa
open Go.RowKit
open Go.ChangeShapes Go.WideShapes Go.ChangeAt
open Go.ChangeMaps (open_string shut_string)
namespace LFD
noncomputable def wit (os : Os) : World := World.holding Try.prog os ⟨#[], #[.agg #[.bool false, .slice none 0 0, .slice none 0 0, .slice none 0 0], .slice none 0 0, .int .i64 0], []⟩
theorem reads (os : Os) {H : Type} (enc : TypeId × Value → H) : ∃ places, DataW.whole enc Try.prog ((wit os).forCall (fun _ _ => 0) ⟨#[], #[.agg #[.bool false, .slice none 0 0, .slice none 0 0, .slice none 0 0], .slice none 0 0, .int .i64 0], []⟩).memory Try.f6.params.toList Rows.leafFindsSpec.vars false #[Value.agg #[.bool false, .slice none 0 0, .slice none 0 0, .slice none 0 0], .slice none 0 0, .int .i64 0].toList 8 = some ([.agg [.lit (.bool false), .nil, .nil, .nil], .nil, .lit (.int .i64 0)], [], places) :=
  ⟨[], by kernel_rfl⟩
set_option maxRecDepth 100000 in
theorem lifted (os : Os) (started : os.Started) (H : Type) (enc : TypeId × Value → H) (F : Stop.Interp) :
    ReturnsInHanded {} Try.checked os 6 .any ((OpenSpec.ofChange Rows.leafFindsSpec).preRow enc Try.prog Try.f6 Rows.leafFindsRow.domain false Rows.leafFindsRow.laid) (((OpenSpec.ofChange Rows.leafFindsSpec).at F).post enc Try.prog Try.f6 false true false false) := by
  obtain ⟨places, hx⟩ := reads os enc
  refine returnsInHanded_of_row (C := Try.checked) (s := OpenSpec.ofChange Rows.leafFindsSpec) Try.own started (by kernel_rfl) Try.func6
    (witness_row_at (enc := enc) (C := Try.checked) false (wit os) #[.agg #[.bool false, .slice none 0 0, .slice none 0 0, .slice none 0 0], .slice none 0 0, .int .i64 0] rfl (by kernel_rfl) (by kernel_rfl) (by kernel_rfl)
      (OpenSpec.preRow_of_cond 8 hx (by kernel_rfl) (fun k hk => by cases hk) (by kernel_rfl) (show laidMet Try.prog [] _ from ⟨[], by simp [DataW.LaidVars], List.nodup_nil, fun _ _ h => by cases h⟩))) ?_
  intro W base args ds gs before hval0 hW _ hcond hZ hL _ _
  have hval : ∀ (j : Nat) t v, Try.f6.params[j]? = some t → args[j]? = some v → Value.okWide Try.prog W .any base t v := hval0
  have hW' := hW
  obtain ⟨p, q, hA0, hV, rfl, hfz, hnd⟩ := hW
  have hA : DataW.TrodAll enc Try.prog W 0 (fun _ => true) true Try.f6.params.toList args.toList ds p := hA0
  rw [Try.params6] at hA hval
  obtain ⟨v0, v1, v2, d0, d1, d2, p0, p1, p2, rfl, rfl, rfl, h0, h1, h2⟩ := trodAll_three hA
  obtain ⟨rfl, rfl⟩ := trodVars_none hV
  have z0 := sz_each hZ (j := 0) (t := 31) (d := d0) (by rw [Try.params6]; rfl) rfl
  obtain ⟨fu0, e0⟩ := h0
  have b0 := open_node (hval 0 31 v0 rfl rfl) e0 z0
  have z1 := sz_each hZ (j := 1) (t := 32) (d := d1) (by rw [Try.params6]; rfl) rfl
  obtain ⟨fu1, e1⟩ := h1
  rw [slice_okWide Try.underlying32 (hval 1 32 v1 rfl rfl)] at e1
  obtain ⟨v1', c1, b1⟩ := open_bs Try.underlying32 Try.underlying5 (by kernel_rfl) (by kernel_rfl) e1 z1
  simp only [List.cons.injEq, and_true] at c1
  subst c1
  obtain ⟨j, rfl, rfl, rfl, _⟩ := open_int Try.underlying3 (hval 2 3 v2 rfl rfl) h2
  clear hA0 hval0
  have hwalk := leafFinds_any (i := j) b0 b1
  refine hwalk.mono fun e W' ⟨he, hg⟩ => ?_
  subst he
  exact ⟨_, rfl, law_post Try.laidOut (by rw [Try.params6]; kernel_rfl) rfl Try.underlying4 rfl hW' rfl hg⟩
end LFD
theorem leafFinds_holds : Rows.LeafFindsSaid :=
  OpenClaim.holds_of_cond 6 Try.f6 rfl rfl rfl rfl rfl rfl rfl ⟨rfl, rfl, rfl, rfl, rfl⟩ rfl rfl rfl rfl rfl (by kernel_rfl) Try.func6 (by kernel_rfl)
    (of_decide_eq_true (by kernel_rfl)) (by unfold Func.isWrapper; first | (rw [if_pos (by decide +kernel)]; kernel_rfl) | (rw [if_neg (by decide +kernel)]; exact ⟨rfl, rfl⟩))
    (fun os started H enc _ F => by rw [OpenClaim.pre_eq_preRow]; exact LFD.lifted os started H enc F)
#print axioms leafFinds_holds
end Go.Proofs.Ytfmbbpfklhkljaa
