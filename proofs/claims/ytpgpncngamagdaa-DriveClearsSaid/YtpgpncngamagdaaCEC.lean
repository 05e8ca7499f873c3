/- For every list of names and every two numbers the law groynelaw04.DriveClears returns true, and its arguments read afterwards as before. No condition. -/
import Derived.Test.YtpgpncngamagdaaCB
import Derived.Test.YtpgpncngamagdaaOS
import Derived.Test.YtpgpncngamagdaaCEl
import Derived.OpenShut
import Derived.Deep.DeepHandedRow
set_option linter.unusedVariables false
namespace Go.Proofs.Ytpgpncngamagdaa
open Go.RowKit
open Go.ChangeShapes Go.WideShapes Go.ChangeAt
open Go.ChangeMaps (open_string shut_string)
namespace DriveClearsC
noncomputable def wit (os : Go.Os) : World := World.holding Try.prog os ⟨#[], #[.slice none 0 0, .int .i64 0, .int .i64 0], []⟩
theorem reads (os : Go.Os) {H : Type} (enc : TypeId × Value → H) : ∃ places, DataW.whole enc Try.prog ((wit os).forCall (fun _ _ => 0) ⟨#[], #[.slice none 0 0, .int .i64 0, .int .i64 0], []⟩).memory Try.f6.params.toList Rows.driveClearsSpec.vars false #[Value.slice none 0 0, .int .i64 0, .int .i64 0].toList 8 = some ([.nil, .lit (.int .i64 0), .lit (.int .i64 0)], [], places) :=
  ⟨[], by kernel_rfl⟩
set_option maxRecDepth 100000 in
theorem lifted (os : Go.Os) (started : os.Started) (H : Type) (enc : TypeId × Value → H) (F : Stop.Interp) :
    ReturnsInHanded {} Try.checked os 6 .any ((OpenSpec.ofChange Rows.driveClearsSpec).preRow enc Try.prog Try.f6 Rows.driveClearsRow.domain false Rows.driveClearsRow.laid) (((OpenSpec.ofChange Rows.driveClearsSpec).at F).post enc Try.prog Try.f6 false true false false) := by
  obtain ⟨places, hx⟩ := reads os enc
  refine returnsInHanded_of_row (C := Try.checked) (s := OpenSpec.ofChange Rows.driveClearsSpec) Try.own started (by kernel_rfl) Try.func6
    (witness_row_at (enc := enc) (C := Try.checked) false (wit os) #[.slice none 0 0, .int .i64 0, .int .i64 0] rfl (by kernel_rfl) (by kernel_rfl) (by kernel_rfl)
      (OpenSpec.preRow_of_cond 8 hx (by kernel_rfl) (fun k hk => by cases hk) (by kernel_rfl) (show laidMet Try.prog [] _ from ⟨[], by simp [DataW.LaidVars], List.nodup_nil, fun _ _ h => by cases h⟩))) ?_
  intro W base args ds gs before hval0 hW _ hcond hZ hL _ _
  have hval : ∀ (j : Nat) t v, Try.f6.params[j]? = some t → args[j]? = some v → Value.okWide Try.prog W .any base t v := hval0
  have hW' := hW
  obtain ⟨p, q, hA0, hV, rfl, hfz, hnd⟩ := hW
  have hA : DataW.TrodAll enc Try.prog W 0 (fun _ => true) true Try.f6.params.toList args.toList ds p := hA0
  rw [Try.params6] at hA hval
  obtain ⟨v0, v1, v2, d0, d1, d2, p0, p1, p2, rfl, rfl, rfl, h0, h1, h2⟩ := trodAll_three hA
  obtain ⟨rfl, rfl⟩ := trodVars_none hV
  have z0 := sz_each hZ (j := 0) (t := 60) (d := d0) (by rw [Try.params6]; rfl) rfl
  obtain ⟨fu0, e0⟩ := h0
  rw [slice_okWide Try.underlying60 (hval 0 60 v0 rfl rfl)] at e0
  obtain ⟨v0', c0, b0⟩ := open_ss e0 z0
  simp only [List.cons.injEq, and_true] at c0
  subst c0
  obtain ⟨j1, rfl, rfl, rfl, j1a⟩ := open_int Try.underlying3 (hval 1 3 v1 rfl rfl) h1
  obtain ⟨j2, rfl, rfl, rfl, j2a⟩ := open_int Try.underlying3 (hval 2 3 v2 rfl rfl) h2
  clear hA0 hval0
  have hwalk := driveClears_any j1 j2 (by simp only [Lit.wf, Bool.and_eq_true, decide_eq_true_eq] at j1a; exact j1a.1) (by simp only [Lit.wf, Bool.and_eq_true, decide_eq_true_eq] at j1a; exact j1a.2) (by simp only [Lit.wf, Bool.and_eq_true, decide_eq_true_eq] at j2a; exact j2a.1) (by simp only [Lit.wf, Bool.and_eq_true, decide_eq_true_eq] at j2a; exact j2a.2) b0.1 b0.2
  refine hwalk.mono fun e W' ⟨he, hg⟩ => ?_
  subst he
  exact ⟨_, rfl, law_post Try.laidOut (by rw [Try.params6]; kernel_rfl) rfl Try.underlying4 rfl hW' rfl hg⟩
end DriveClearsC
theorem driveClears_holds : Rows.DriveClearsSaid :=
  OpenClaim.holds_of_cond 6 Try.f6 rfl rfl rfl rfl rfl rfl rfl ⟨rfl, rfl, rfl, rfl, rfl⟩ rfl rfl rfl rfl rfl (by kernel_rfl) Try.func6 (by kernel_rfl)
    (of_decide_eq_true (by kernel_rfl)) (by unfold Func.isWrapper; first | (rw [if_pos (by decide +kernel)]; kernel_rfl) | (rw [if_neg (by decide +kernel)]; exact ⟨rfl, rfl⟩))
    (fun os started H enc _ F => by rw [OpenClaim.pre_eq_preRow]; exact DriveClearsC.lifted os started H enc F)
#print axioms driveClears_holds
end Go.Proofs.Ytpgpncngamagdaa
