/- For every two numbers and every list of acts the law groynelaw07.PagesHands returns true, and its arguments read afterwards as before. No condition. -/
import Derived.Test.YtbmhkdcmepfmbaaGreatB08
import Derived.Test.YtbmhkdcmepfmbaaGreatB22
import Derived.OpenShut
import Derived.Deep.DeepHandedRow
set_option linter.unusedVariables false
namespace Go.Proofs.YtbmhkdcmepfmbaaGreat
open Go.RowKit
open Go.ChangeShapes Go.WideShapes Go.ChangeAt
open Go.ChangeMaps (open_string shut_string)
namespace PagesHandsC
noncomputable def wit (os : Go.Os) : World := World.holding Tryz.prog os ⟨#[], #[.int .i64 0, .int .i64 0, .slice none 0 0], []⟩
theorem reads (os : Go.Os) {H : Type} (enc : TypeId × Value → H) : ∃ places, DataW.whole enc Tryz.prog ((wit os).forCall (fun _ _ => 0) ⟨#[], #[.int .i64 0, .int .i64 0, .slice none 0 0], []⟩).memory Tryz.f4.params.toList Rows.pagesHandsSpec.vars false #[Value.int .i64 0, .int .i64 0, .slice none 0 0].toList 8 = some ([.lit (.int .i64 0), .lit (.int .i64 0), .nil], [], places) :=
  ⟨[], by kernel_rfl⟩
set_option maxRecDepth 100000 in
theorem lifted (os : Go.Os) (started : os.Started) (H : Type) (enc : TypeId × Value → H) (F : Stop.Interp) :
    ReturnsInHanded {} Tryz.checked os 4 .any ((OpenSpec.ofChange Rows.pagesHandsSpec).preRow enc Tryz.prog Tryz.f4 Rows.pagesHandsRow.domain false Rows.pagesHandsRow.laid) (((OpenSpec.ofChange Rows.pagesHandsSpec).at F).post enc Tryz.prog Tryz.f4 false true false false) := by
  obtain ⟨places, hx⟩ := reads os enc
  refine returnsInHanded_of_row (C := Tryz.checked) (s := OpenSpec.ofChange Rows.pagesHandsSpec) Tryz.own started (by kernel_rfl) Tryz.func4
    (witness_row_at (enc := enc) (C := Tryz.checked) false (wit os) #[.int .i64 0, .int .i64 0, .slice none 0 0] rfl (by kernel_rfl) (by kernel_rfl) (by kernel_rfl)
      (OpenSpec.preRow_of_cond 8 hx (by kernel_rfl) (fun k hk => by cases hk) (by kernel_rfl) (show laidMet Tryz.prog [] _ from ⟨[], by simp [DataW.LaidVars], List.nodup_nil, fun _ _ h => by cases h⟩))) ?_
  intro W base args ds gs before hval0 hW _ hcond hZ hL _ _
  have hval : ∀ (j : Nat) t v, Tryz.f4.params[j]? = some t → args[j]? = some v → Value.okWide Tryz.prog W .any base t v := hval0
  have hW' := hW
  obtain ⟨p, q, hA0, hV, rfl, hfz, hnd⟩ := hW
  have hA : DataW.TrodAll enc Tryz.prog W 0 (fun _ => true) true Tryz.f4.params.toList args.toList ds p := hA0
  rw [Tryz.params4] at hA hval
  obtain ⟨v0, v1, v2, d0, d1, d2, p0, p1, p2, rfl, rfl, rfl, h0, h1, h2⟩ := trodAll_three hA
  obtain ⟨rfl, rfl⟩ := trodVars_none hV
  obtain ⟨j0, rfl, rfl, rfl, j0a⟩ := open_int Tryz.underlying3 (hval 0 3 v0 rfl rfl) h0
  obtain ⟨j1, rfl, rfl, rfl, j1a⟩ := open_int Tryz.underlying3 (hval 1 3 v1 rfl rfl) h1
  have z2 := sz_each hZ (j := 2) (t := 47) (d := d2) (by rw [Tryz.params4]; rfl) rfl
  obtain ⟨fu2, e2⟩ := h2
  rw [slice_okWide Tryz.underlying47 (hval 2 47 v2 rfl rfl)] at e2
  obtain ⟨v2', c2, b2⟩ := open_acts e2 z2
  simp only [List.cons.injEq, and_true] at c2
  subst c2
  clear hA0 hval0
  have hwalk := hands_walk (by simp only [Lit.wf, Bool.and_eq_true, decide_eq_true_eq] at j0a; exact j0a) (by simp only [Lit.wf, Bool.and_eq_true, decide_eq_true_eq] at j1a; exact j1a) b2
  refine hwalk.mono fun e W' ⟨he, hg⟩ => ?_
  subst he
  exact ⟨_, rfl, law_post Tryz.laidOut (by rw [Tryz.params4]; kernel_rfl) rfl Tryz.underlying4 rfl hW' rfl hg⟩
end PagesHandsC
theorem pagesHands_holds : Rows.PagesHandsSaid :=
  OpenClaim.holds_of_cond 4 Tryz.f4 rfl rfl rfl rfl rfl rfl rfl ⟨rfl, rfl, rfl, rfl, rfl⟩ rfl rfl rfl rfl rfl (by kernel_rfl) Tryz.func4 (by kernel_rfl)
    (of_decide_eq_true (by kernel_rfl)) (by unfold Func.isWrapper; first | (rw [if_pos (by decide +kernel)]; kernel_rfl) | (rw [if_neg (by decide +kernel)]; exact ⟨rfl, rfl⟩))
    (fun os started H enc _ F => by rw [OpenClaim.pre_eq_preRow]; exact PagesHandsC.lifted os started H enc F)
#print axioms pagesHands_holds
end Go.Proofs.YtbmhkdcmepfmbaaGreat
