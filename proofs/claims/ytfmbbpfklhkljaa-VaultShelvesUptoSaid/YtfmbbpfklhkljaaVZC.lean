/- For every prefix, every list of names and every list of parts whose bulk is at most 1048576 the law groynelaw10.VaultShelves returns true, and each argument reads afterwards as before. Condition: the bulk. -/
import Derived.Test.YtfmbbpfklhkljaaBase
import Derived.Test.YtfmbbpfklhkljaaOP
import Derived.Test.YtfmbbpfklhkljaaVZ
import Derived.OpenShut
import Derived.Deep.DeepHandedRow
set_option linter.unusedVariables false
namespace Go.Proofs.Ytfmbbpfklhkljaa
open Go.RowKit
open Go.ChangeShapes Go.WideShapes Go.ChangeAt
open Go.ChangeMaps (open_string shut_string)
namespace VZC
def strOf {H : Type} (d : DataW H) : List UInt8 := match d with | .lit (.string b) => b | _ => []
def strsOf {H : Type} (d : DataW H) : List (List UInt8) := match d with | .slice elems _ => elems.map strOf | _ => []
/-- []string -/
theorem open_ss {H : Type} {enc : TypeId × Value → H} {P : Program} {W : World} {base : Nat} {spare : Nat → Bool} {held : Bool} {t e : TypeId} {fuel : Nat} {cs : List Value} {x : DataW H × List MemPlace} (ht : P.underlying t = some (.slice e)) (he : P.underlying e = some .string) (hc : P.cellsOf e = 1) (hb : P.bytesOf e = 16)
    (h : DataW.trod enc P W base spare held fuel t cs = some x) (hz : Sz P t x.1) :
    ∃ v, cs = [v] ∧ Ss (Lt W.heap.size) W v (strsOf x.1) := by
  obtain ⟨v, vs, ds, h1, h2, h4, h5, h6, h7⟩ := open_row1 ht hc h hz
  have h9 : strsOf x.1 = ds.map strOf := by
    rcases h7 with ⟨h7, rfl⟩ | ⟨sp, h7⟩ <;> rw [h7] <;> rfl
  have hel : ∀ i (hi : i < vs.length) (hi' : i < ds.length), vs[i] = .string ⟨(strOf ds[i]).toArray⟩ := by
    intro i hi hi'
    obtain ⟨n, ps, h10, _⟩ := h6 i hi hi'
    obtain ⟨s, e1, e2, e3⟩ := DataW.trod_string he h10
    simp only [List.cons.injEq, and_true] at e1
    simp only [Prod.mk.injEq] at e2
    rw [e1, e2.1]; rfl
  have h8 : vs = sv (ds.map strOf) := by
    apply List.ext_getElem (by simp [h4])
    intro i hi hi'
    rw [hel i hi (by omega)]
    simp [sv]
  refine ⟨v, h1, ?_, ?_⟩
  · rw [h9, ← h8, List.length_map, h4]; exact h2
  · rw [h9, List.length_map, h4]
    rw [hb] at h5
    have : reachBytes = lim := by decide
    omega
theorem bulk_str {H : Type} (d : DataW H) : (strOf d).length ≤ Rows.uptoBulk d := by
  unfold strOf
  split
  · simp [Rows.uptoBulk]
  · simp
theorem bulk_in {H : Type} {d : DataW H} : ∀ {ds : List (DataW H)}, d ∈ ds → Rows.uptoBulk d ≤ Rows.uptoBulkAll ds
  | e :: r, hd => by
    simp only [Rows.uptoBulkAll]
    rcases List.mem_cons.1 hd with rfl | hd
    · omega
    · have := bulk_in hd; omega
theorem bulk_flat {H : Type} : ∀ (ds : List (DataW H)), (ds.map strOf).flatten.length ≤ Rows.uptoBulkAll ds
  | [] => by simp
  | d :: r => by
    have h1 := bulk_flat r
    have h2 := bulk_str d
    simp only [Rows.uptoBulkAll, List.map_cons, List.flatten_cons, List.length_append]
    omega
theorem bulk_strs {H : Type} (d : DataW H) : (strsOf d).flatten.length ≤ Rows.uptoBulk d := by
  unfold strsOf
  split
  · have := bulk_flat (H := H)
    rename_i el sp
    have := this el
    simp only [Rows.uptoBulk]; omega
  · simp
theorem flat_mem {l : List (List UInt8)} {x : List UInt8} (h : x ∈ l) : x.length ≤ l.flatten.length := by
  induction l with
  | nil => cases h
  | cons y l ih =>
    rw [List.flatten_cons, List.length_append]
    rcases List.mem_cons.1 h with rfl | h
    · omega
    · have := ih h; omega
noncomputable def wit (os : Os) : World := World.holding Try.prog os ⟨#[], #[.string ⟨#[]⟩, .slice none 0 0, .slice none 0 0], []⟩
theorem reads (os : Os) {H : Type} (enc : TypeId × Value → H) : ∃ places, DataW.whole enc Try.prog ((wit os).forCall (fun _ _ => 0) ⟨#[], #[.string ⟨#[]⟩, .slice none 0 0, .slice none 0 0], []⟩).memory Try.f11.params.toList Rows.vaultShelvesSpec.vars false #[Value.string ⟨#[]⟩, .slice none 0 0, .slice none 0 0].toList 8 = some ([.lit (.string []), .nil, .nil], [], places) :=
  ⟨[], by kernel_rfl⟩
set_option maxRecDepth 100000 in
theorem lifted (os : Os) (started : os.Started) (H : Type) (enc : TypeId × Value → H) (F : Stop.Interp) :
    ReturnsInHanded {} Try.checked os 11 .any ((Rows.OpenSpec.upto Rows.vaultShelvesSpec).preRow enc Try.prog Try.f11 Rows.vaultShelvesUptoRow.domain false Rows.vaultShelvesUptoRow.laid) (((Rows.OpenSpec.upto Rows.vaultShelvesSpec).at F).post enc Try.prog Try.f11 false true false false) := by
  obtain ⟨places, hx⟩ := reads os enc
  refine returnsInHanded_of_row (C := Try.checked) (s := Rows.OpenSpec.upto Rows.vaultShelvesSpec) Try.own started (by kernel_rfl) Try.func11
    (witness_row_at (enc := enc) (C := Try.checked) false (wit os) #[.string ⟨#[]⟩, .slice none 0 0, .slice none 0 0] rfl (by kernel_rfl) (by kernel_rfl) (by kernel_rfl)
      (OpenSpec.preRow_of_cond 8 hx (by kernel_rfl) (fun k hk => by cases hk; kernel_rfl) (by kernel_rfl) (show laidMet Try.prog [] _ from ⟨[], by simp [DataW.LaidVars], List.nodup_nil, fun _ _ h => by cases h⟩))) ?_
  intro W base args ds gs before hval0 hW _ hcond hZ hL _ _
  have hval : ∀ (j : Nat) t v, Try.f11.params[j]? = some t → args[j]? = some v → Value.okWide Try.prog W .any base t v := hval0
  have hW' := hW
  obtain ⟨p, q, hA0, hV, rfl, hfz, hnd⟩ := hW
  have hA : DataW.TrodAll enc Try.prog W 0 (fun _ => true) true Try.f11.params.toList args.toList ds p := hA0
  rw [Try.params11] at hA hval
  obtain ⟨v0, v1, v2, d0, d1, d2, p0, p1, p2, rfl, rfl, rfl, h0, h1, h2⟩ := trodAll_three hA
  obtain ⟨rfl, rfl⟩ := trodVars_none hV
  have z1 := sz_each hZ (j := 1) (t := 75) (d := d1) (by rw [Try.params11]; rfl) rfl
  obtain ⟨fu1, e1⟩ := h1
  rw [slice_okWide Try.underlying75 (hval 1 75 v1 rfl rfl)] at e1
  obtain ⟨v1', c1, b1⟩ := open_ss Try.underlying75 Try.underlying9 (by kernel_rfl) (by kernel_rfl) e1 z1
  simp only [List.cons.injEq, and_true] at c1
  subst c1
  have z2 := sz_each hZ (j := 2) (t := 75) (d := d2) (by rw [Try.params11]; rfl) rfl
  obtain ⟨fu2, e2⟩ := h2
  rw [slice_okWide Try.underlying75 (hval 2 75 v2 rfl rfl)] at e2
  obtain ⟨v2', c2, b2⟩ := open_ss Try.underlying75 Try.underlying9 (by kernel_rfl) (by kernel_rfl) e2 z2
  simp only [List.cons.injEq, and_true] at c2
  subst c2
  obtain ⟨a0, rfl, rfl, rfl, w0⟩ := open_string Try.underlying9 (hval 0 9 v0 rfl rfl) h0
  clear hA0 hval0
  have hk := hcond _ rfl
  simp only [List.append_nil] at hk
  have hb : ∀ d ∈ [.lit (.string a0.data.toList), d1, d2], Rows.uptoBulk d ≤ 1048576 := fun d hd => Nat.le_trans (bulk_in hd) (of_decide_eq_true hk)
  have k0 := hb (.lit (.string a0.data.toList)) (by simp)
  have k1 := hb d1 (by simp)
  have k2 := hb d2 (by simp)
  have l1 := bulk_strs d1
  have l2 := bulk_strs d2
  have hwalk := vaultShelves_any (p := a0.data.toList) (ns := strsOf d1) (ps := strsOf d2) b1 b2 (by simp only [Rows.uptoBulk] at k0; omega) (by omega) (fun n hn => by have := flat_mem hn; omega)
  refine hwalk.mono fun e W' ⟨he, hg⟩ => ?_
  subst he
  exact ⟨_, rfl, law_post Try.laidOut (by rw [Try.params11]; kernel_rfl) rfl Try.underlying4 rfl hW' rfl hg⟩
end VZC
theorem vaultShelvesUpto_holds : Rows.VaultShelvesUptoSaid :=
  OpenClaim.holds_of_cond 11 Try.f11 rfl rfl rfl rfl rfl rfl rfl ⟨rfl, rfl, rfl, rfl, rfl⟩ rfl rfl rfl rfl rfl (by kernel_rfl) Try.func11 (by kernel_rfl)
    (of_decide_eq_true (by kernel_rfl)) (by unfold Func.isWrapper; first | (rw [if_pos (by decide +kernel)]; kernel_rfl) | (rw [if_neg (by decide +kernel)]; exact ⟨rfl, rfl⟩))
    (fun os started H enc _ F => by rw [OpenClaim.pre_eq_preRow]; exact VZC.lifted os started H enc F)
#print axioms vaultShelvesUpto_holds
end Go.Proofs.Ytfmbbpfklhkljaa
