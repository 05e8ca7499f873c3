/- leaf.two, told, few. -/
import Derived.Test.YtfmbbpfklhkljaaA8
set_option linter.unusedVariables false
set_option linter.unusedSimpArgs false
namespace Go.Proofs.Ytfmbbpfklhkljaa
open Go.RowKit
def be2 (n : Nat) : List UInt8 := [UInt8.ofNat (n / 256), UInt8.ofNat n]
set_option maxHeartbeats 400000 in
/-- leaf.two -/
theorem two_any (n : Nat) (hn : n ≤ 65535) (w : World) : Calls Try.prog 62 #[.int .i64 n] w (RetOb 5 w (be2 n)) := by
  have hb : (n : Int) ≤ 65535 := by omega
  go_enter Try.func62, Try.ntmps62
  go_wp2
  go_ret
  refine ⟨_, rfl, up_alloc _ _, ⟨by simp [be2], .inr ⟨w.heap.size, 2, _, rfl, Nat.le_refl _, heap_alloc_new w _, Nat.le_refl _, by decide, by simp, ?_⟩⟩⟩
  have e1 : ((UInt8.ofNat (n / 256)).toNat : Int) = (n : Int) / 256 := by simp; omega
  have e2 : ((UInt8.ofNat n).toNat : Int) = (n : Int) % 256 := by simp
  simp [be2, bv, e1, e2]
  omega
set_option maxHeartbeats 800000 in
/-- groynelaw08.told -/
theorem told_any {A : Nat → Prop} {w : World} {v : Value} {n : Nd} (h : RN A w v n) : Calls Try.prog 28 #[v] w fun e w' => e = .returned v ∧ Below w.heap.size w w' := by
  obtain ⟨k, u, c, rfl, h1, h2, h3⟩ := h
  obtain ⟨a1, c1, rfl, g1, _, _⟩ := h1.at
  obtain ⟨a2, c2, rfl, g2, _, _⟩ := h2.at
  obtain ⟨a3, c3, rfl, g3, _, _⟩ := h3.at
  clear h1 h2 h3
  go_enter Try.func28, Try.ntmps28
  go_wp2
  obtain ⟨W, hW, ⟨b0, b1, b2, b3⟩, bf, hbW, hsz⟩ := box4 w (.bool n.leaf) (.slice a1 n.keys.length c1) (.slice a2 n.vals.length c2) (.slice a3 n.kids.length c3) 37
  rw [← hW]
  clear hW
  have hz : (W.alloc (.cells #[.bool n.leaf, .slice a1 n.keys.length c1, .slice a2 n.vals.length c2, .slice a3 n.kids.length c3] 31)).heap[w.heap.size + 1]? = some (.cells #[.bool n.leaf, .slice a1 n.keys.length c1, .slice a2 n.vals.length c2, .slice a3 n.kids.length c3] 31 (0, 0)) := by rw [← hsz]; exact heap_alloc_new W _
  have HB := Hid.mk' (bt hbW (up_alloc W (.cells #[.bool n.leaf, .slice a1 n.keys.length c1, .slice a2 n.vals.length c2, .slice a3 n.kids.length c3] 31)))
  generalize (W.alloc (.cells #[.bool n.leaf, .slice a1 n.keys.length c1, .slice a2 n.vals.length c2, .slice a3 n.kids.length c3] 31)) = V at *
  have z0 : V.cell? ⟨w.heap.size + 1, 0, none⟩ = some (.bool n.leaf) := by simp only [World.cell?, hz]; rfl
  have z1 : V.cell? ⟨w.heap.size + 1, 1, none⟩ = some (.slice a1 n.keys.length c1) := by simp only [World.cell?, hz]; rfl
  have z2 : V.cell? ⟨w.heap.size + 1, 2, none⟩ = some (.slice a2 n.vals.length c2) := by simp only [World.cell?, hz]; rfl
  have z3 : V.cell? ⟨w.heap.size + 1, 3, none⟩ = some (.slice a3 n.kids.length c3) := by simp only [World.cell?, hz]; rfl
  refine bodyPost_ret (v := .agg #[.bool n.leaf, .slice a1 n.keys.length c1, .slice a2 n.vals.length c2, .slice a3 n.kids.length c3]) (by simp [results, Try.results28, go_sem, z0, z1, z2, z3]) rfl ?_
  exact ⟨rfl, HB.out⟩
end Go.Proofs.Ytfmbbpfklhkljaa
