/- For every row of bytes and every byte the law groynelaw07.PagesKeep returns true, and its arguments read afterwards as before. No condition. -/
import Derived.Test.YtbmhkdcmepfmbaaGreatB08
import Derived.Test.YtbmhkdcmepfmbaaGreatB22
import Derived.OpenShut
import Derived.Deep.DeepHandedRow
set_option linter.unusedVariables false
namespace Go.Proofs.YtbmhkdcmepfmbaaGreat
open Go.RowKit
open Go.ChangeShapes Go.WideShapes Go.ChangeAt
open Go.ChangeMaps (open_string shut_string)
namespace PagesKeepC
noncomputable def wit (os : Go.Os) : World := World.holding Tryz.prog os ⟨#[], #[.slice none 0 0, .int .u8 0], []⟩
theorem reads (os : Go.Os) {H : Type} (enc : TypeId × Value → H) : ∃ places, DataW.whole enc Tryz.prog ((wit os).forCall (fun _ _ => 0) ⟨#[], #[.slice none 0 0, .int .u8 0], []⟩).memory Tryz.f3.params.toList Rows.pagesKeepSpec.vars false #[Value.slice none 0 0, .int .u8 0].toList 8 = some ([.nil, .lit (.int .u8 0)], [], places) :=
  ⟨[], by kernel_rfl⟩
set_option maxRecDepth 100000 in
theorem lifted (os : Go.Os) (started : os.Started) (H : Type) (enc : TypeId × Value → H) (F : Stop.Interp) :
    ReturnsInHanded {} Tryz.checked os 3 .any ((OpenSpec.ofChange Rows.pagesKeepSpec).preRow enc Tryz.prog Tryz.f3 Rows.pagesKeepRow.domain false Rows.pagesKeepRow.laid) (((OpenSpec.ofChange Rows.pagesKeepSpec).at F).post enc Tryz.prog Tryz.f3 false true false false) := by
  obtain ⟨places, hx⟩ := reads os enc
  refine returnsInHanded_of_row (C := Tryz.checked) (s := OpenSpec.ofChange Rows.pagesKeepSpec) Tryz.own started (by kernel_rfl) Tryz.func3
    (witness_row_at (enc := enc) (C := Tryz.checked) false (wit os) #[.slice none 0 0, .int .u8 0] rfl (by kernel_rfl) (by kernel_rfl) (by kernel_rfl)
      (OpenSpec.preRow_of_cond 8 hx (by kernel_rfl) (fun k hk => by cases hk) (by kernel_rfl) (show laidMet Tryz.prog [] _ from ⟨[], by simp [DataW.LaidVars], List.nodup_nil, fun _ _ h => by cases h⟩))) ?_
  intro W base args ds gs before hval0 hW _ hcond hZ hL _ _
  have hval : ∀ (j : Nat) t v, Tryz.f3.params[j]? = some t → args[j]? = some v → Value.okWide Tryz.prog W .any base t v := hval0
  have hW' := hW
  obtain ⟨p, q, hA0, hV, rfl, hfz, hnd⟩ := hW
  have hA : DataW.TrodAll enc Tryz.prog W 0 (fun _ => true) true Tryz.f3.params.toList args.toList ds p := hA0
  rw [Tryz.params3] at hA hval
  obtain ⟨v0, v1, d0, d1, p0, p1, rfl, rfl, rfl, h0, h1⟩ := trodAll_two hA
  obtain ⟨rfl, rfl⟩ := trodVars_none hV
  have z0 := sz_each hZ (j := 0) (t := 22) (d := d0) (by rw [Tryz.params3]; rfl) rfl
  obtain ⟨fu0, e0⟩ := h0
  rw [slice_okWide Tryz.underlying22 (hval 0 22 v0 rfl rfl)] at e0
  obtain ⟨v0', c0, b0⟩ := open_bs Tryz.underlying22 Tryz.underlying5 (by kernel_rfl) (by kernel_rfl) e0 z0
  simp only [List.cons.injEq, and_true] at c0
  subst c0
  obtain ⟨j1, rfl, rfl, rfl, j1a⟩ := open_int Tryz.underlying5 (hval 1 5 v1 rfl rfl) h1
  clear hA0 hval0
  have hwalk := (by have h := keep_walk (f := UInt8.ofNat j1.toNat) b0; rw [byte_int j1a] at h; exact h : Calls Tryz.prog 3 _ W _)
  refine hwalk.mono fun e W' ⟨he, hg⟩ => ?_
  subst he
  exact ⟨_, rfl, law_post Tryz.laidOut (by rw [Tryz.params3]; kernel_rfl) rfl Tryz.underlying4 rfl hW' rfl hg⟩
end PagesKeepC
theorem pagesKeep_holds : Rows.PagesKeepSaid :=
  OpenClaim.holds_of_cond 3 Tryz.f3 rfl rfl rfl rfl rfl rfl rfl ⟨rfl, rfl, rfl, rfl, rfl⟩ rfl rfl rfl rfl rfl (by kernel_rfl) Tryz.func3 (by kernel_rfl)
    (of_decide_eq_true (by kernel_rfl)) (by unfold Func.isWrapper; first | (rw [if_pos (by decide +kernel)]; kernel_rfl) | (rw [if_neg (by decide +kernel)]; exact ⟨rfl, rfl⟩))
    (fun os started H enc _ F => by rw [OpenClaim.pre_eq_preRow]; exact PagesKeepC.lifted os started H enc F)
#print axioms pagesKeep_holds
end Go.Proofs.YtbmhkdcmepfmbaaGreat
