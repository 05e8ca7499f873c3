/- pack.Join. -/
import Derived.Test.YtojgkjpmphfakaaGreatDoorPJ
set_option linter.unusedVariables false
set_option linter.unusedSimpArgs false
namespace Go.Proofs.YtojgkjpmphfakaaGreatDoor
open Go.RowKit
attribute [local go_sem ↓] Go.wp_at_zero Go.wp_at_succ
/-- what Join makes -/
def jn (ls : List (List UInt8)) : List UInt8 := nm ls.length ++ txt ls
set_option maxRecDepth 100000 in
set_option maxHeartbeats 2000000 in
/-- Join -/
theorem pjoin_any {A : Nat → Prop} {w : World} {v : Value} {ls : List (List UInt8)} (hv : Bss A w v ls) (hA : ∀ k, A k → k < w.heap.size) (hz : (txt ls).length ≤ 900000) (hn : ls.length ≤ 100000) :
    Calls Tryz.prog 46 #[v] w fun e w' => ∃ v', e = .returned v' ∧ Ob 5 w.heap.size w' v' (jn ls) ∧ Below w.heap.size w w' := by
  obtain ⟨W, hW⟩ : ∃ W, W = w.alloc (.cells #[.slice none 0 0] 104) := ⟨_, rfl⟩
  have hb : Below w.heap.size w W := by rw [hW]; exact up_alloc _ _
  have he : W.heap[w.heap.size]? = some (.cells #[.slice none 0 0] 104 (0, 0)) := by rw [hW]; exact heap_alloc_new _ _
  have hs : W.heap.size = w.heap.size + 1 := by rw [hW]; simp
  have h0 : Wrt (w.heap.size + 1) W w.heap.size [] := ⟨none, 0, he, ob_nil, Nat.lt_succ_self _, Nat.le_of_eq hs.symm⟩
  have h9 := nm_len (show ls.length < 18446744073709551616 by omega)
  have HU := Hid.mk' (up_alloc W (.cells #[.int .u64 (ls.length : Int)] 23))
  have HN : Hid (Calls Tryz.prog 57 #[.pointer (some ⟨w.heap.size, 0, none⟩), .slice (some ⟨w.heap.size + 1, 0, none⟩) 1 1] (W.alloc (.cells #[.int .u64 (ls.length : Int)] 23)) fun e w' => e = .returned (.tuple #[]) ∧ Wrt (w.heap.size + 1) w' w.heap.size ([] ++ nms [ls.length]) ∧ Below w.heap.size (W.alloc (.cells #[.int .u64 (ls.length : Int)] 23)) w') := by
    rw [← hs] at h0 ⊢
    exact wnum_any (h0.up HU.out) (us_one (by omega)) (by simp) (by rw [nms_one]; simp; omega)
  have HB := Hid.mk' (hb.trans (HU.out.mono hb.size))
  have HV := Hid.mk' (hv.monoS (A' := Lt w.heap.size) hA)
  have HZ : Hid ((nm ls.length).length + (txt ls).length ≤ 1000000) := by show _ ≤ _; omega
  obtain ⟨va, vc, rfl, _, _, _⟩ := hv.at
  have hl : (ls.length : Int) ≤ 100000 := by omega
  have hw0 : IntKind.u64.wrap (ls.length : Int) = (ls.length : Int) := by rw [IntKind.wrap_u64]; omega
  clear hb he hs h0 h9 hv hz HU
  go_enter Tryz.func46, Tryz.ntmps46
  go_wp2_with fail
  rw [← hW]
  clear hW
  refine HN.out.mono ?_
  rintro e w5 ⟨rfl, hw5, hb5⟩
  rw [nms_one, List.nil_append] at hw5
  have HB5 := Hid.mk' (HB.out.trans hb5)
  have HT : Hid (Calls Tryz.prog 58 #[.pointer (some ⟨w.heap.size, 0, none⟩), .slice va ls.length vc] w5 fun e w' => e = .returned (.tuple #[]) ∧ Wrt (w.heap.size + 1) w' w.heap.size (nm ls.length ++ txt ls) ∧ Below w.heap.size w5 w') := wtext_any hw5 (HV.out.keep HB5.out) (fun k hk => hk) HZ.out hn
  clear hw5 hb5 HN HB
  go_wp2_with fail
  refine HT.out.mono ?_
  rintro e w6 ⟨rfl, hw6, hb6⟩
  have HB6 := Hid.mk' (HB5.out.trans hb6)
  obtain ⟨xa, xc, h1, h2, h3, h4⟩ := hw6
  have HO : Hid (Ob 5 w.heap.size w6 (.slice xa (nm ls.length ++ txt ls).length xc) (jn ls)) := h2.mono (Nat.le_succ _)
  obtain ⟨c0, _⟩ := box1 h1
  generalize (nm ls.length ++ txt ls).length = q at *
  clear h1 h2 h3 h4 hb6 HT
  go_wp2_with fail
  go_ret
  exact ⟨_, rfl, HO.out, HB6.out⟩
end Go.Proofs.YtojgkjpmphfakaaGreatDoor
