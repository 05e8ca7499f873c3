/- For every list of numbers (uint64) the law groynelaw16.CutKeeps returns true, and its argument reads afterwards as before. No condition. -/
import Derived.Test.YtojgkjpmphfakaaGreatDoorBA
import Derived.Test.YtojgkjpmphfakaaGreatDoorCO
import Derived.Test.YtojgkjpmphfakaaGreatDoorOU
set_option linter.unusedVariables false
namespace Go.Proofs.YtojgkjpmphfakaaGreatDoor
open Go.RowKit
open Go.ChangeShapes Go.WideShapes Go.ChangeAt
open Go.ChangeMaps (open_string shut_string)
namespace CutKeepsC
theorem reads (os : Os) {H : Type} (enc : TypeId × Value → H) : ∃ places, DataW.whole enc Tryz.prog ((laidWorld os #[.slice none 0 0]).forCall (fun _ _ => 0) ⟨#[], #[.slice none 0 0], []⟩).memory Tryz.f4.params.toList Rows.cutKeepsSpec.vars false #[Value.slice none 0 0].toList 8 = some ([.nil], [], places) :=
  ⟨[], by kernel_rfl⟩
set_option maxRecDepth 100000 in
theorem lifted (os : Os) (started : os.Started) (H : Type) (enc : TypeId × Value → H) (F : Stop.Interp) :
    ReturnsInHanded {} Tryz.checked os 4 .any ((OpenSpec.ofChange Rows.cutKeepsSpec).preRow enc Tryz.prog Tryz.f4 Rows.cutKeepsRow.domain false Rows.cutKeepsRow.laid) (((OpenSpec.ofChange Rows.cutKeepsSpec).at F).post enc Tryz.prog Tryz.f4 false true false false) := by
  obtain ⟨places, hx⟩ := reads os enc
  refine returnsInHanded_of_row (C := Tryz.checked) (s := OpenSpec.ofChange Rows.cutKeepsSpec) Tryz.own started (by kernel_rfl) Tryz.func4
    (witness_row_at (enc := enc) (C := Tryz.checked) false (laidWorld os #[.slice none 0 0]) #[.slice none 0 0] rfl (by kernel_rfl) (by kernel_rfl) (by kernel_rfl)
      (OpenSpec.preRow_of_cond 8 hx (by kernel_rfl) (fun k hk => by cases hk) (by kernel_rfl) (laid_met os _))) ?_
  intro W base args ds gs before hval0 hW _ hcond hZ hL _ _
  have hval : ∀ (j : Nat) t v, Tryz.f4.params[j]? = some t → args[j]? = some v → Value.okWide Tryz.prog W .any base t v := hval0
  have hW' := hW
  obtain ⟨p, q, hA0, hV, rfl, hfz, hnd⟩ := hW
  have hA : DataW.TrodAll enc Tryz.prog W 0 (fun _ => true) true Tryz.f4.params.toList args.toList ds p := hA0
  rw [Tryz.params4] at hA hval
  obtain ⟨v0, d0, rfl, rfl, h0⟩ := trodAll_one hA
  obtain ⟨rfl, rfl⟩ := trodVars_none hV
  have z0 := sz_each hZ (j := 0) (t := 30) (d := d0) (by rw [Tryz.params4]; rfl) rfl
  obtain ⟨fu0, e0⟩ := h0
  rw [slice_okWide Tryz.underlying30 (hval 0 30 v0 rfl rfl)] at e0
  obtain ⟨v0', c0, b0⟩ := open_us e0 z0
  simp only [List.cons.injEq, and_true] at c0
  subst c0
  clear hA0 hval0
  have hwalk := keeps_any b0
  refine hwalk.mono fun e W' ⟨he, hg⟩ => ?_
  subst he
  exact ⟨_, rfl, law_post Tryz.laidOut (by rw [Tryz.params4]; kernel_rfl) rfl Tryz.underlying4 rfl hW' rfl hg⟩
theorem said : Rows.CutKeepsSaid :=
  OpenClaim.holds_of_cond 4 Tryz.f4 rfl rfl rfl rfl rfl rfl rfl ⟨rfl, rfl, rfl, rfl, rfl⟩ rfl rfl rfl rfl rfl (by kernel_rfl) Tryz.func4 (by kernel_rfl)
    (of_decide_eq_true (by kernel_rfl)) (by unfold Func.isWrapper; first | (rw [if_pos (by decide +kernel)]; kernel_rfl) | (rw [if_neg (by decide +kernel)]; exact ⟨rfl, rfl⟩))
    (fun os started H enc _ F => by rw [OpenClaim.pre_eq_preRow]; exact lifted os started H enc F)
theorem plain (f : FuncId) (fn : Func) (hf : Tryz.pinned.checked.prog.funcNamed "groyne/groynelaw16.CutKeeps" = some f) (hfn : Tryz.pinned.checked.prog.funcs[f]? = some fn) :
    false = Tryz.pinned.checked.prog.looks [] ∧ ∀ (j : Nat) t, fn.params[j]? = some t → Tryz.pinned.checked.prog.wantsStandIn t = false := by
  obtain rfl : f = 4 := Option.some.inj ((show Tryz.prog.funcNamed "groyne/groynelaw16.CutKeeps" = some 4 by kernel_rfl).symm.trans hf) |>.symm
  obtain rfl : fn = Tryz.f4 := (Option.some.inj (Tryz.func4.symm.trans hfn)).symm
  refine ⟨by kernel_rfl, fun j t ht => ?_⟩
  rw [Tryz.params4] at ht
  obtain rfl : t = 30 := by simpa using Array.mem_of_getElem? ht
  exact (show Tryz.prog.wantsStandIn 30 = false by kernel_rfl)
end CutKeepsC
theorem cutKeeps_holds : Rows.CutKeepsCardSaid :=
  Claim7.holds_tied_plain_at .later [] _ _ _ _ CutKeepsC.said (fun _ h => by cases h) (by kernel_rfl) (fun _ h => by cases h) cutKeeps_row_tie rfl ⟨rfl, rfl⟩ (by kernel_rfl) rfl CutKeepsC.plain (by kernel_rfl)
#print axioms cutKeeps_holds
end Go.Proofs.YtojgkjpmphfakaaGreatDoor
