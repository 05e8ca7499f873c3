/- For every two lists of ranges and every list of transactions the law groynelaw11.LockMirrors returns true, and its arguments read afterwards as before. No condition. -/
import Derived.Test.YteejlmeinndlhaaCB
import Derived.Test.YteejlmeinndlhaaMW
import Derived.OpenShut
import Derived.Deep.DeepHandedRow
set_option linter.unusedVariables false
namespace Go.Proofs.Yteejlmeinndlhaa
open Go.RowKit
open Go.ChangeShapes Go.WideShapes Go.ChangeAt
open Go.ChangeMaps (open_string shut_string)
namespace LockMirrorsC
noncomputable def wit (os : Go.Os) : World := World.holding Try.prog os ⟨#[], #[.slice none 0 0, .slice none 0 0, .slice none 0 0], []⟩
theorem reads (os : Go.Os) {H : Type} (enc : TypeId × Value → H) : ∃ places, DataW.whole enc Try.prog ((wit os).forCall (fun _ _ => 0) ⟨#[], #[.slice none 0 0, .slice none 0 0, .slice none 0 0], []⟩).memory Try.f7.params.toList Rows.lockMirrorsSpec.vars false #[Value.slice none 0 0, .slice none 0 0, .slice none 0 0].toList 8 = some ([.nil, .nil, .nil], [], places) :=
  ⟨[], by kernel_rfl⟩
set_option maxRecDepth 100000 in
theorem lifted (os : Go.Os) (started : os.Started) (H : Type) (enc : TypeId × Value → H) (F : Stop.Interp) :
    ReturnsInHanded {} Try.checked os 7 .any ((OpenSpec.ofChange Rows.lockMirrorsSpec).preRow enc Try.prog Try.f7 Rows.lockMirrorsRow.domain false Rows.lockMirrorsRow.laid) (((OpenSpec.ofChange Rows.lockMirrorsSpec).at F).post enc Try.prog Try.f7 false true false false) := by
  obtain ⟨places, hx⟩ := reads os enc
  refine returnsInHanded_of_row (C := Try.checked) (s := OpenSpec.ofChange Rows.lockMirrorsSpec) Try.own started (by kernel_rfl) Try.func7
    (witness_row_at (enc := enc) (C := Try.checked) false (wit os) #[.slice none 0 0, .slice none 0 0, .slice none 0 0] rfl (by kernel_rfl) (by kernel_rfl) (by kernel_rfl)
      (OpenSpec.preRow_of_cond 8 hx (by kernel_rfl) (fun k hk => by cases hk) (by kernel_rfl) (show laidMet Try.prog [] _ from ⟨[], by simp [DataW.LaidVars], List.nodup_nil, fun _ _ h => by cases h⟩))) ?_
  intro W base args ds gs before hval0 hW _ hcond hZ hL _ _
  have hval : ∀ (j : Nat) t v, Try.f7.params[j]? = some t → args[j]? = some v → Value.okWide Try.prog W .any base t v := hval0
  have hW' := hW
  obtain ⟨p, q, hA0, hV, rfl, hfz, hnd⟩ := hW
  have hA : DataW.TrodAll enc Try.prog W 0 (fun _ => true) true Try.f7.params.toList args.toList ds p := hA0
  rw [Try.params7] at hA hval
  obtain ⟨v0, v1, v2, d0, d1, d2, p0, p1, p2, rfl, rfl, rfl, h0, h1, h2⟩ := trodAll_three hA
  obtain ⟨rfl, rfl⟩ := trodVars_none hV
  have z0 := sz_each hZ (j := 0) (t := 40) (d := d0) (by rw [Try.params7]; rfl) rfl
  obtain ⟨fu0, e0⟩ := h0
  rw [slice_okWide Try.underlying40 (hval 0 40 v0 rfl rfl)] at e0
  obtain ⟨v0', c0, b0⟩ := open_rgs e0 z0
  simp only [List.cons.injEq, and_true] at c0
  subst c0
  have z1 := sz_each hZ (j := 1) (t := 40) (d := d1) (by rw [Try.params7]; rfl) rfl
  obtain ⟨fu1, e1⟩ := h1
  rw [slice_okWide Try.underlying40 (hval 1 40 v1 rfl rfl)] at e1
  obtain ⟨v1', c1, b1⟩ := open_rgs e1 z1
  simp only [List.cons.injEq, and_true] at c1
  subst c1
  have z2 := sz_each hZ (j := 2) (t := 25) (d := d2) (by rw [Try.params7]; rfl) rfl
  obtain ⟨fu2, e2⟩ := h2
  rw [slice_okWide Try.underlying25 (hval 2 25 v2 rfl rfl)] at e2
  obtain ⟨v2', c2, b2⟩ := open_txs e2 z2
  simp only [List.cons.injEq, and_true] at c2
  subst c2
  clear hA0 hval0
  have hwalk := lockMirrors_any b0 b1 b2
  refine hwalk.mono fun e W' ⟨he, hg⟩ => ?_
  subst he
  exact ⟨_, rfl, law_post Try.laidOut (by rw [Try.params7]; kernel_rfl) rfl Try.underlying4 rfl hW' rfl hg⟩
end LockMirrorsC
theorem lockMirrors_holds : Rows.LockMirrorsSaid :=
  OpenClaim.holds_of_cond 7 Try.f7 rfl rfl rfl rfl rfl rfl rfl ⟨rfl, rfl, rfl, rfl, rfl⟩ rfl rfl rfl rfl rfl (by kernel_rfl) Try.func7 (by kernel_rfl)
    (of_decide_eq_true (by kernel_rfl)) (by unfold Func.isWrapper; first | (rw [if_pos (by decide +kernel)]; kernel_rfl) | (rw [if_neg (by decide +kernel)]; exact ⟨rfl, rfl⟩))
    (fun os started H enc _ F => by rw [OpenClaim.pre_eq_preRow]; exact LockMirrorsC.lifted os started H enc F)
#print axioms lockMirrors_holds
end Go.Proofs.Yteejlmeinndlhaa
