/- For every number and every list of acts the law groynelaw07.PagesSurvive returns true, and its arguments read afterwards as before. No condition. -/
import Derived.Test.YtbmhkdcmepfmbaaGreatB08
import Derived.Test.YtbmhkdcmepfmbaaGreatB23
import Derived.OpenShut
import Derived.Deep.DeepHandedRow
set_option linter.unusedVariables false
namespace Go.Proofs.YtbmhkdcmepfmbaaGreat
open Go.RowKit
open Go.ChangeShapes Go.WideShapes Go.ChangeAt
open Go.ChangeMaps (open_string shut_string)
namespace PagesSurviveC
noncomputable def wit (os : Go.Os) : World := World.holding Tryz.prog os ⟨#[], #[.int .i64 0, .slice none 0 0], []⟩
theorem reads (os : Go.Os) {H : Type} (enc : TypeId × Value → H) : ∃ places, DataW.whole enc Tryz.prog ((wit os).forCall (fun _ _ => 0) ⟨#[], #[.int .i64 0, .slice none 0 0], []⟩).memory Tryz.f6.params.toList Rows.pagesSurviveSpec.vars false #[Value.int .i64 0, .slice none 0 0].toList 8 = some ([.lit (.int .i64 0), .nil], [], places) :=
  ⟨[], by kernel_rfl⟩
set_option maxRecDepth 100000 in
theorem lifted (os : Go.Os) (started : os.Started) (H : Type) (enc : TypeId × Value → H) (F : Stop.Interp) :
    ReturnsInHanded {} Tryz.checked os 6 .any ((OpenSpec.ofChange Rows.pagesSurviveSpec).preRow enc Tryz.prog Tryz.f6 Rows.pagesSurviveRow.domain false Rows.pagesSurviveRow.laid) (((OpenSpec.ofChange Rows.pagesSurviveSpec).at F).post enc Tryz.prog Tryz.f6 false true false false) := by
  obtain ⟨places, hx⟩ := reads os enc
  refine returnsInHanded_of_row (C := Tryz.checked) (s := OpenSpec.ofChange Rows.pagesSurviveSpec) Tryz.own started (by kernel_rfl) Tryz.func6
    (witness_row_at (enc := enc) (C := Tryz.checked) false (wit os) #[.int .i64 0, .slice none 0 0] rfl (by kernel_rfl) (by kernel_rfl) (by kernel_rfl)
      (OpenSpec.preRow_of_cond 8 hx (by kernel_rfl) (fun k hk => by cases hk) (by kernel_rfl) (show laidMet Tryz.prog [] _ from ⟨[], by simp [DataW.LaidVars], List.nodup_nil, fun _ _ h => by cases h⟩))) ?_
  intro W base args ds gs before hval0 hW _ hcond hZ hL _ _
  have hval : ∀ (j : Nat) t v, Tryz.f6.params[j]? = some t → args[j]? = some v → Value.okWide Tryz.prog W .any base t v := hval0
  have hW' := hW
  obtain ⟨p, q, hA0, hV, rfl, hfz, hnd⟩ := hW
  have hA : DataW.TrodAll enc Tryz.prog W 0 (fun _ => true) true Tryz.f6.params.toList args.toList ds p := hA0
  rw [Tryz.params6] at hA hval
  obtain ⟨v0, v1, d0, d1, p0, p1, rfl, rfl, rfl, h0, h1⟩ := trodAll_two hA
  obtain ⟨rfl, rfl⟩ := trodVars_none hV
  obtain ⟨j0, rfl, rfl, rfl, j0a⟩ := open_int Tryz.underlying3 (hval 0 3 v0 rfl rfl) h0
  have z1 := sz_each hZ (j := 1) (t := 47) (d := d1) (by rw [Tryz.params6]; rfl) rfl
  obtain ⟨fu1, e1⟩ := h1
  rw [slice_okWide Tryz.underlying47 (hval 1 47 v1 rfl rfl)] at e1
  obtain ⟨v1', c1, b1⟩ := open_acts e1 z1
  simp only [List.cons.injEq, and_true] at c1
  subst c1
  clear hA0 hval0
  have hwalk := survive_walk (by simp only [Lit.wf, Bool.and_eq_true, decide_eq_true_eq] at j0a; exact j0a) b1
  refine hwalk.mono fun e W' ⟨he, hg⟩ => ?_
  subst he
  exact ⟨_, rfl, law_post Tryz.laidOut (by rw [Tryz.params6]; kernel_rfl) rfl Tryz.underlying4 rfl hW' rfl hg⟩
end PagesSurviveC
theorem pagesSurvive_holds : Rows.PagesSurviveSaid :=
  OpenClaim.holds_of_cond 6 Tryz.f6 rfl rfl rfl rfl rfl rfl rfl ⟨rfl, rfl, rfl, rfl, rfl⟩ rfl rfl rfl rfl rfl (by kernel_rfl) Tryz.func6 (by kernel_rfl)
    (of_decide_eq_true (by kernel_rfl)) (by unfold Func.isWrapper; first | (rw [if_pos (by decide +kernel)]; kernel_rfl) | (rw [if_neg (by decide +kernel)]; exact ⟨rfl, rfl⟩))
    (fun os started H enc _ F => by rw [OpenClaim.pre_eq_preRow]; exact PagesSurviveC.lifted os started H enc F)
#print axioms pagesSurvive_holds
end Go.Proofs.YtbmhkdcmepfmbaaGreat
