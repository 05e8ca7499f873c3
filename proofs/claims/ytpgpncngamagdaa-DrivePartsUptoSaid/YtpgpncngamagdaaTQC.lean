/- For every room, every list of acts and every list of lists of acts of bounded bulk the law groynelaw04.DriveParts returns true, and its arguments read afterwards as before. The condition is the given bound on the arguments bulk. -/
import Derived.Test.YtpgpncngamagdaaCB
import Derived.Test.YtpgpncngamagdaaTQ
import Derived.OpenShut
import Derived.Deep.DeepHandedRow
set_option linter.unusedVariables false
namespace Go.Proofs.Ytpgpncngamagdaa
open Go.RowKit
open Go.ChangeShapes Go.WideShapes Go.ChangeAt
open Go.ChangeMaps (open_string shut_string)
namespace DrivePartsC
noncomputable def wit (os : Go.Os) : World := World.holding Try.prog os ⟨#[], #[.int .i64 0, .slice none 0 0, .slice none 0 0], []⟩
theorem reads (os : Go.Os) {H : Type} (enc : TypeId × Value → H) : ∃ places, DataW.whole enc Try.prog ((wit os).forCall (fun _ _ => 0) ⟨#[], #[.int .i64 0, .slice none 0 0, .slice none 0 0], []⟩).memory Try.f9.params.toList Rows.drivePartsSpec.vars false #[Value.int .i64 0, .slice none 0 0, .slice none 0 0].toList 8 = some ([.lit (.int .i64 0), .nil, .nil], [], places) :=
  ⟨[], by kernel_rfl⟩
set_option maxRecDepth 100000 in
theorem lifted (os : Go.Os) (started : os.Started) (H : Type) (enc : TypeId × Value → H) (F : Stop.Interp) :
    ReturnsInHanded {} Try.checked os 9 .any ((Rows.OpenSpec.upto Rows.drivePartsSpec).preRow enc Try.prog Try.f9 Rows.drivePartsUptoRow.domain false Rows.drivePartsUptoRow.laid) (((Rows.OpenSpec.upto Rows.drivePartsSpec).at F).post enc Try.prog Try.f9 false true false false) := by
  obtain ⟨places, hx⟩ := reads os enc
  refine returnsInHanded_of_row (C := Try.checked) (s := Rows.OpenSpec.upto Rows.drivePartsSpec) Try.own started (by kernel_rfl) Try.func9
    (witness_row_at (enc := enc) (C := Try.checked) false (wit os) #[.int .i64 0, .slice none 0 0, .slice none 0 0] rfl (by kernel_rfl) (by kernel_rfl) (by kernel_rfl)
      (OpenSpec.preRow_of_cond 8 hx (by kernel_rfl) (fun k hk => by cases hk; kernel_rfl) (by kernel_rfl) (show laidMet Try.prog [] _ from ⟨[], by simp [DataW.LaidVars], List.nodup_nil, fun _ _ h => by cases h⟩))) ?_
  intro W base args ds gs before hval0 hW _ hcond hZ hL _ _
  have hval : ∀ (j : Nat) t v, Try.f9.params[j]? = some t → args[j]? = some v → Value.okWide Try.prog W .any base t v := hval0
  have hW' := hW
  obtain ⟨p, q, hA0, hV, rfl, hfz, hnd⟩ := hW
  have hA : DataW.TrodAll enc Try.prog W 0 (fun _ => true) true Try.f9.params.toList args.toList ds p := hA0
  rw [Try.params9] at hA hval
  obtain ⟨v0, v1, v2, d0, d1, d2, p0, p1, p2, rfl, rfl, rfl, h0, h1, h2⟩ := trodAll_three hA
  obtain ⟨rfl, rfl⟩ := trodVars_none hV
  have z1 := sz_each hZ (j := 1) (t := 41) (d := d1) (by rw [Try.params9]; rfl) rfl
  obtain ⟨fu1, e1⟩ := h1
  rw [slice_okWide Try.underlying41 (hval 1 41 v1 rfl rfl)] at e1
  obtain ⟨v1', c1, b1⟩ := open_acts e1 z1
  simp only [List.cons.injEq, and_true] at c1
  subst c1
  have z2 := sz_each hZ (j := 2) (t := 76) (d := d2) (by rw [Try.params9]; rfl) rfl
  obtain ⟨fu2, e2⟩ := h2
  rw [slice_okWide Try.underlying76 (hval 2 76 v2 rfl rfl)] at e2
  obtain ⟨v2', c2, b2⟩ := open_actss e2 z2
  simp only [List.cons.injEq, and_true] at c2
  subst c2
  obtain ⟨j0, rfl, rfl, rfl, j0a⟩ := open_int Try.underlying3 (hval 0 3 v0 rfl rfl) h0
  simp only [Lit.wf, Bool.and_eq_true, decide_eq_true_eq] at j0a
  clear hA0 hval0
  have hk := hcond _ rfl
  simp only [List.append_nil] at hk
  have hb : ∀ d ∈ [(.lit (.int .i64 j0)), d1, d2], Rows.uptoBulk d ≤ 1048576 := fun d hd => Nat.le_trans (bulk_in hd) (of_decide_eq_true hk)
  have k0 := hb (.lit (.int .i64 j0)) (by simp)
  have k1 := hb d1 (by simp)
  have k2 := hb d2 (by simp)
  have hwalk := driveParts_any j0 j0a.2 b1 b2 (Nat.le_trans (bulk_acts d1) (by omega)) (fun x hx => Nat.le_trans (bulk_actss d2 x hx) (by omega))
  refine hwalk.mono fun e W' ⟨he, hg⟩ => ?_
  subst he
  exact ⟨_, rfl, law_post Try.laidOut (by rw [Try.params9]; kernel_rfl) rfl Try.underlying4 rfl hW' rfl hg⟩
end DrivePartsC
theorem drivePartsUpto_holds : Rows.DrivePartsUptoSaid :=
  OpenClaim.holds_of_cond 9 Try.f9 rfl rfl rfl rfl rfl rfl rfl ⟨rfl, rfl, rfl, rfl, rfl⟩ rfl rfl rfl rfl rfl (by kernel_rfl) Try.func9 (by kernel_rfl)
    (of_decide_eq_true (by kernel_rfl)) (by unfold Func.isWrapper; first | (rw [if_pos (by decide +kernel)]; kernel_rfl) | (rw [if_neg (by decide +kernel)]; exact ⟨rfl, rfl⟩))
    (fun os started H enc _ F => by rw [OpenClaim.pre_eq_preRow]; exact DrivePartsC.lifted os started H enc F)
#print axioms drivePartsUpto_holds
end Go.Proofs.Ytpgpncngamagdaa
