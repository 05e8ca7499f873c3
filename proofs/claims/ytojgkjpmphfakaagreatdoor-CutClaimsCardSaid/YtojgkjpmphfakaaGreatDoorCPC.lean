/- For every list of origins and every number (uint64) the law groynelaw16.CutClaims returns true, and each argument reads afterwards as before. No condition. -/
import Derived.Test.YtojgkjpmphfakaaGreatDoorBA
import Derived.Test.YtojgkjpmphfakaaGreatDoorCP
import Derived.Test.YtojgkjpmphfakaaGreatDoorOV
set_option linter.unusedVariables false
namespace Go.Proofs.YtojgkjpmphfakaaGreatDoor
open Go.RowKit
open Go.ChangeShapes Go.WideShapes Go.ChangeAt
open Go.ChangeMaps (open_string shut_string)
namespace CutClaimsC
theorem reads (os : Os) {H : Type} (enc : TypeId × Value → H) : ∃ places, DataW.whole enc Tryz.prog ((laidWorld os #[.slice none 0 0, .int .u64 0]).forCall (fun _ _ => 0) ⟨#[], #[.slice none 0 0, .int .u64 0], []⟩).memory Tryz.f5.params.toList Rows.cutClaimsSpec.vars false #[Value.slice none 0 0, .int .u64 0].toList 8 = some ([.nil, .lit (.int .u64 0)], [], places) :=
  ⟨[], by kernel_rfl⟩
set_option maxRecDepth 100000 in
theorem lifted (os : Os) (started : os.Started) (H : Type) (enc : TypeId × Value → H) (F : Stop.Interp) :
    ReturnsInHanded {} Tryz.checked os 5 .any ((OpenSpec.ofChange Rows.cutClaimsSpec).preRow enc Tryz.prog Tryz.f5 Rows.cutClaimsRow.domain false Rows.cutClaimsRow.laid) (((OpenSpec.ofChange Rows.cutClaimsSpec).at F).post enc Tryz.prog Tryz.f5 false true false false) := by
  obtain ⟨places, hx⟩ := reads os enc
  refine returnsInHanded_of_row (C := Tryz.checked) (s := OpenSpec.ofChange Rows.cutClaimsSpec) Tryz.own started (by kernel_rfl) Tryz.func5
    (witness_row_at (enc := enc) (C := Tryz.checked) false (laidWorld os #[.slice none 0 0, .int .u64 0]) #[.slice none 0 0, .int .u64 0] rfl (by kernel_rfl) (by kernel_rfl) (by kernel_rfl)
      (OpenSpec.preRow_of_cond 8 hx (by kernel_rfl) (fun k hk => by cases hk) (by kernel_rfl) (laid_met os _))) ?_
  intro W base args ds gs before hval0 hW _ hcond hZ hL _ _
  have hval : ∀ (j : Nat) t v, Tryz.f5.params[j]? = some t → args[j]? = some v → Value.okWide Tryz.prog W .any base t v := hval0
  have hW' := hW
  obtain ⟨p, q, hA0, hV, rfl, hfz, hnd⟩ := hW
  have hA : DataW.TrodAll enc Tryz.prog W 0 (fun _ => true) true Tryz.f5.params.toList args.toList ds p := hA0
  rw [Tryz.params5] at hA hval
  obtain ⟨v0, v1, d0, d1, p0, p1, rfl, rfl, rfl, h0, h1⟩ := trodAll_two hA
  obtain ⟨rfl, rfl⟩ := trodVars_none hV
  have z0 := sz_each hZ (j := 0) (t := 49) (d := d0) (by rw [Tryz.params5]; rfl) rfl
  obtain ⟨fu0, e0⟩ := h0
  rw [slice_okWide Tryz.underlying49 (hval 0 49 v0 rfl rfl)] at e0
  obtain ⟨v0', c0, b0⟩ := open_ogs e0 z0
  simp only [List.cons.injEq, and_true] at c0
  subst c0
  obtain ⟨j1, rfl, rfl, rfl, j1a⟩ := open_int Tryz.underlying23 (hval 1 23 v1 rfl rfl) h1
  obtain ⟨n1, rfl, n1a⟩ := u64_nat j1a
  clear hA0 hval0
  have hwalk := claims_any b0 n1a
  refine hwalk.mono fun e W' ⟨he, hg⟩ => ?_
  subst he
  exact ⟨_, rfl, law_post Tryz.laidOut (by rw [Tryz.params5]; kernel_rfl) rfl Tryz.underlying4 rfl hW' rfl hg⟩
theorem said : Rows.CutClaimsSaid :=
  OpenClaim.holds_of_cond 5 Tryz.f5 rfl rfl rfl rfl rfl rfl rfl ⟨rfl, rfl, rfl, rfl, rfl⟩ rfl rfl rfl rfl rfl (by kernel_rfl) Tryz.func5 (by kernel_rfl)
    (of_decide_eq_true (by kernel_rfl)) (by unfold Func.isWrapper; first | (rw [if_pos (by decide +kernel)]; kernel_rfl) | (rw [if_neg (by decide +kernel)]; exact ⟨rfl, rfl⟩))
    (fun os started H enc _ F => by rw [OpenClaim.pre_eq_preRow]; exact lifted os started H enc F)
theorem plain (f : FuncId) (fn : Func) (hf : Tryz.pinned.checked.prog.funcNamed "groyne/groynelaw16.CutClaims" = some f) (hfn : Tryz.pinned.checked.prog.funcs[f]? = some fn) :
    false = Tryz.pinned.checked.prog.looks [] ∧ ∀ (j : Nat) t, fn.params[j]? = some t → Tryz.pinned.checked.prog.wantsStandIn t = false := by
  obtain rfl : f = 5 := Option.some.inj ((show Tryz.prog.funcNamed "groyne/groynelaw16.CutClaims" = some 5 by kernel_rfl).symm.trans hf) |>.symm
  obtain rfl : fn = Tryz.f5 := (Option.some.inj (Tryz.func5.symm.trans hfn)).symm
  refine ⟨by kernel_rfl, fun j t ht => ?_⟩
  rw [Tryz.params5] at ht
  have hm := Array.mem_of_getElem? ht
  simp only [List.mem_toArray, List.mem_cons, List.not_mem_nil, or_false] at hm
  rcases hm with rfl | rfl
  · exact (show Tryz.prog.wantsStandIn 49 = false by kernel_rfl)
  · exact (show Tryz.prog.wantsStandIn 23 = false by kernel_rfl)
end CutClaimsC
theorem cutClaims_holds : Rows.CutClaimsCardSaid :=
  Claim7.holds_tied_plain_at .later [] _ _ _ _ CutClaimsC.said (fun _ h => by cases h) (by kernel_rfl) (fun _ h => by cases h) cutClaims_row_tie rfl ⟨rfl, rfl⟩ (by kernel_rfl) rfl CutClaimsC.plain (by kernel_rfl)
#print axioms cutClaims_holds
end Go.Proofs.YtojgkjpmphfakaaGreatDoor
