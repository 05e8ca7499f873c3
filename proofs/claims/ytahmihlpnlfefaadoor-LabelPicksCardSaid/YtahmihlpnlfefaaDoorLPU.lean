/- For every pattern (string) and names ([]string) the law groynelaw02.LabelPicks returns true, and each argument reads afterwards as before. No condition. -/
import Derived.Test.YtahmihlpnlfefaaDoorBase
import Derived.Test.YtahmihlpnlfefaaDoorOP
import Derived.Test.YtahmihlpnlfefaaDoorOS
import Derived.Test.YtahmihlpnlfefaaDoorLP
set_option linter.unusedVariables false
namespace Go.Proofs.YtahmihlpnlfefaaDoor
open Go.RowKit
open Go.ChangeShapes Go.WideShapes Go.ChangeAt
open Go.ChangeMaps (open_string shut_string)
namespace LPU
theorem bulk_le {H : Type} {ds : List (DataW H)} {d : DataW H} (h : Rows.uptoSmall H ds = true) (hd : d ∈ ds) : Rows.uptoBulk d ≤ 1048576 := by
  have h1 : Rows.uptoBulkAll ds ≤ 1048576 := of_decide_eq_true h
  have h2 : ∀ l : List (DataW H), d ∈ l → Rows.uptoBulk d ≤ Rows.uptoBulkAll l := by
    intro l
    induction l with
    | nil => intro h; cases h
    | cons x r ih =>
      intro h
      simp only [Rows.uptoBulkAll]
      rcases List.mem_cons.1 h with e | e
      · subst e; omega
      · have := ih e; omega
  exact Nat.le_trans (h2 ds hd) h1
theorem bytes_bulk {H : Type} (d : DataW H) : (bytesOf d).length ≤ Rows.uptoBulk d := by
  have h2 : ∀ l : List (DataW H), l.length ≤ Rows.uptoBulkAll l := by
    intro l
    induction l with
    | nil => simp
    | cons x r ih =>
      have h1 : 1 ≤ Rows.uptoBulk x := by
        cases x with
        | lit l => cases l <;> simp [Rows.uptoBulk]
        | _ => simp [Rows.uptoBulk]
      simp only [Rows.uptoBulkAll, List.length_cons]; omega
  cases d with
  | slice el sp => have := h2 el; simp only [bytesOf, List.length_map, Rows.uptoBulk]; omega
  | _ => simp [bytesOf]
theorem reads (os : Os) {H : Type} (enc : TypeId × Value → H) : ∃ places, DataW.whole enc Tryd.prog ((laidWorld os #[.string ⟨#[]⟩, .slice none 0 0]).forCall (fun _ _ => 0) ⟨#[], #[.string ⟨#[]⟩, .slice none 0 0], []⟩).memory Tryd.f8.params.toList Rows.labelPicksSpec.vars false #[Value.string ⟨#[]⟩, .slice none 0 0].toList 8 = some ([.lit (.string []), .nil], [], places) :=
  ⟨[], by kernel_rfl⟩
set_option maxRecDepth 100000 in
theorem lifted (os : Os) (started : os.Started) (H : Type) (enc : TypeId × Value → H) (F : Stop.Interp) :
    ReturnsInHanded {} Tryd.checked os 8 .any ((OpenSpec.ofChange Rows.labelPicksSpec).preRow enc Tryd.prog Tryd.f8 Rows.labelPicksRow.domain false Rows.labelPicksRow.laid) (((OpenSpec.ofChange Rows.labelPicksSpec).at F).post enc Tryd.prog Tryd.f8 false true false false) := by
  obtain ⟨places, hx⟩ := reads os enc
  refine returnsInHanded_of_row (C := Tryd.checked) (s := OpenSpec.ofChange Rows.labelPicksSpec) Tryd.own started (by kernel_rfl) Tryd.func8
    (witness_row_at (enc := enc) (C := Tryd.checked) false (laidWorld os #[.string ⟨#[]⟩, .slice none 0 0]) #[.string ⟨#[]⟩, .slice none 0 0] rfl (by kernel_rfl) (by kernel_rfl) (by kernel_rfl)
      (OpenSpec.preRow_of_cond 8 hx (by kernel_rfl) (fun k hk => by cases hk) (by kernel_rfl) (laid_met os _))) ?_
  intro W base args ds gs before hval0 hW _ hcond hZ hL _ _
  have hval : ∀ (j : Nat) t v, Tryd.f8.params[j]? = some t → args[j]? = some v → Value.okWide Tryd.prog W .any base t v := hval0
  have hW' := hW
  obtain ⟨p, q, hA0, hV, rfl, hfz, hnd⟩ := hW
  have hA : DataW.TrodAll enc Tryd.prog W 0 (fun _ => true) true Tryd.f8.params.toList args.toList ds p := hA0
  rw [Tryd.params8] at hA hval
  obtain ⟨v0, v1, d0, d1, p0, p1, rfl, rfl, rfl, h0, h1⟩ := trodAll_two hA
  obtain ⟨rfl, rfl⟩ := trodVars_none hV
  obtain ⟨a0, rfl, rfl, rfl, w0⟩ := open_string Tryd.underlying9 (hval 0 9 v0 rfl rfl) h0
  have z1 := sz_each hZ (j := 1) (t := 41) (d := d1) (by rw [Tryd.params8]; rfl) rfl
  obtain ⟨fu1, e1⟩ := h1
  rw [slice_okWide Tryd.underlying41 (hval 1 41 v1 rfl rfl)] at e1
  obtain ⟨v1', c1, b1, m1⟩ := open_ss Tryd.underlying41 Tryd.underlying9 (by kernel_rfl) (by kernel_rfl) e1 z1
  simp only [List.cons.injEq, and_true] at c1
  subst c1
  clear hA0 hval0
  have hwalk := picks_any a0.data.toList v1 (strsOf d1) W w0 b1 m1
  refine hwalk.mono fun e W' ⟨he, hg⟩ => ?_
  subst he
  exact ⟨_, rfl, law_post Tryd.laidOut (by rw [Tryd.params8]; kernel_rfl) rfl Tryd.underlying4 rfl hW' rfl hg⟩
theorem said : Rows.LabelPicksSaid :=
  OpenClaim.holds_of_cond 8 Tryd.f8 rfl rfl rfl rfl rfl rfl rfl ⟨rfl, rfl, rfl, rfl, rfl⟩ rfl rfl rfl rfl rfl (by kernel_rfl) Tryd.func8 (by kernel_rfl)
    (of_decide_eq_true (by kernel_rfl)) (by unfold Func.isWrapper; first | (rw [if_pos (by decide +kernel)]; kernel_rfl) | (rw [if_neg (by decide +kernel)]; exact ⟨rfl, rfl⟩))
    (fun os started H enc _ F => by rw [OpenClaim.pre_eq_preRow]; exact lifted os started H enc F)
theorem plain (f : FuncId) (fn : Func) (hf : Tryd.pinned.checked.prog.funcNamed "groyne/groynelaw02.LabelPicks" = some f) (hfn : Tryd.pinned.checked.prog.funcs[f]? = some fn) :
    false = Tryd.pinned.checked.prog.looks [] ∧ ∀ (j : Nat) t, fn.params[j]? = some t → Tryd.pinned.checked.prog.wantsStandIn t = false := by
  obtain rfl : f = 8 := Option.some.inj ((show Tryd.prog.funcNamed "groyne/groynelaw02.LabelPicks" = some 8 by kernel_rfl).symm.trans hf) |>.symm
  obtain rfl : fn = Tryd.f8 := (Option.some.inj (Tryd.func8.symm.trans hfn)).symm
  refine ⟨by kernel_rfl, fun j t ht => ?_⟩
  rw [Tryd.params8] at ht
  have hm := Array.mem_of_getElem? ht
  simp only [List.mem_toArray, List.mem_cons, List.not_mem_nil, or_false] at hm
  rcases hm with rfl | rfl
  · exact (show Tryd.prog.wantsStandIn 9 = false by kernel_rfl)
  · exact (show Tryd.prog.wantsStandIn 41 = false by kernel_rfl)
end LPU
theorem labelPicks_holds : Rows.LabelPicksCardSaid :=
  Claim7.holds_tied_plain_at .later [] _ _ _ _ LPU.said (fun _ h => by cases h) (by kernel_rfl) (fun _ h => by cases h) labelPicks_row_tie rfl ⟨rfl, rfl⟩ (by kernel_rfl) rfl LPU.plain (by kernel_rfl)
#print axioms labelPicks_holds
end Go.Proofs.YtahmihlpnlfefaaDoor
