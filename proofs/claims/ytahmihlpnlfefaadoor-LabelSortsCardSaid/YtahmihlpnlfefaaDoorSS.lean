/- Rows of strings; a world that has drawn and grown. -/
import Derived.Test.YtahmihlpnlfefaaDoorOP
import Derived.Test.YtahmihlpnlfefaaDoorPK
import Derived.Test.YtahmihlpnlfefaaDoorL4
import Derived.Sort.Grow
import Derived.Shelf.SlSortCmp.NoneTotal
set_option linter.unusedVariables false
set_option linter.unusedSimpArgs false
namespace Go.Proofs.YtahmihlpnlfefaaDoor
open Go.RowKit
open PL
/-- the cells of strings -/
def sv (l : List (List UInt8)) : List Value := l.map fun s => .string ⟨s.toArray⟩
@[simp] theorem sv_length (l : List (List UInt8)) : (sv l).length = l.length := by simp [sv]
theorem sv_append (l r : List (List UInt8)) : sv (l ++ r) = sv l ++ sv r := by simp [sv]
theorem sv_one (l : List (List UInt8)) : ∀ u ∈ sv l, u.oneCell' = true := by
  intro u hu; simp [sv] at hu; obtain ⟨x, _, rfl⟩ := hu; rfl
theorem sv_get (l : List (List UInt8)) (j : Nat) (h : j < l.length) : (sv l)[j]? = some (.string ⟨l[j].toArray⟩) := by simp [sv, h]
/-- v reads as the strings l, none longer than B -/
def Ss (A : Nat → Prop) (w : World) (v : Value) (l : List (List UInt8)) : Prop := Row 1 A w v l.length (sv l) ∧ l.length * 16 ≤ lim
theorem Ss.up {A : Nat → Prop} {w w' : World} {v : Value} {l : List (List UInt8)} (h : Ss A w v l) (hb : Below w.heap.size w w') : Ss A w' v l := ⟨h.1.up hb, h.2⟩
theorem Ss.at {A : Nat → Prop} {w : World} {v : Value} {l : List (List UInt8)} (h : Ss A w v l) : ∃ (a : Option Addr) (c : Nat), v = .slice a l.length c ∧ l.length ≤ c ∧ (a = none → c = 0) ∧
    ∀ j (hj : j < l.length), ∃ b o, a = some ⟨b, o, none⟩ ∧ A b ∧ w.cell? ⟨b, o + j, none⟩ = some (.string ⟨l[j].toArray⟩) := by
  obtain ⟨a, c, hv, hc, ha, H⟩ := h.1.at1
  exact ⟨a, c, hv, hc, ha, fun j hj => by obtain ⟨b, o, h1, h2, h3⟩ := H j hj; exact ⟨b, o, h1, h2, by rw [h3, sv_get l j hj]⟩⟩
/-- strings of the call's own -/
def So (e : TypeId) (B : Nat) (w : World) (v : Value) (l : List (List UInt8)) : Prop := w.ownsRow B e 1 v l.length (sv l)
theorem So.ss {e : TypeId} {B : Nat} {w : World} {v : Value} {l : List (List UInt8)} (h : So e B w v l) (hl : l.length * 16 ≤ lim) : Ss (Lt w.heap.size) w v l := ⟨Row.of_own h, hl⟩
theorem So.up {e : TypeId} {B : Nat} {w w' : World} {v : Value} {l : List (List UInt8)} (h : So e B w v l) (hb : Below w.heap.size w w') : So e B w' v l := own_keep h hb (Nat.le_refl _)
theorem So.alloc {e : TypeId} {B : Nat} {w : World} {v : Value} {l : List (List UInt8)} (h : So e B w v l) (o : Obj) : So e B (w.alloc o) v l := World.ownsRow.alloc h o
theorem So.mono {e : TypeId} {B B' : Nat} {w : World} {v : Value} {l : List (List UInt8)} (h : So e B w v l) (hB : B' ≤ B) : So e B' w v l := own_mono h hB
theorem So.slice {e : TypeId} {B : Nat} {w : World} {v : Value} {l : List (List UInt8)} (h : So e B w v l) : ∃ ao n c, v = .slice ao n c := by
  rcases h.2 with ⟨rfl, _⟩ | ⟨g, cap, cur, rfl, _⟩
  · exact ⟨_, _, _, rfl⟩
  · exact ⟨_, _, _, rfl⟩
theorem so_nil {B : Nat} {w : World} {e : TypeId} : So e B w (.slice none 0 0) [] := World.ownsRow_nil w B e 1
theorem so_empty {B : Nat} {w : World} {e : TypeId} (hB : B ≤ w.heap.size) : So e B (w.alloc (.cells #[] e)) (.slice (some ⟨w.heap.size, 0, none⟩) 0 0) [] := own_empty hB
theorem ss_row {w : World} {xs : Array Value} {e : TypeId} (l : List (List UInt8)) (hx : xs.toList = sv l) {n : Nat} (hn : n = l.length) (hl : l.length ≤ 1000) :
    Ss (Lt (w.heap.size + 1)) (w.alloc (.cells xs e)) (.slice (some ⟨w.heap.size, 0, none⟩) n n) l := by
  subst hn
  refine ⟨⟨by simp, _, _, rfl, Nat.le_refl _, by simp, fun j u hj => ⟨_, _, rfl, Nat.lt_succ_self _, ?_⟩⟩, by unfold lim; omega⟩
  have : (w.alloc (.cells xs e)).heap[w.heap.size]? = some (.cells xs e) := heap_alloc_new w _
  rw [← hx] at hj
  simp only [World.cell?, this, Nat.zero_add]
  simpa using hj
theorem so_row {w : World} {xs : Array Value} {e : TypeId} (l : List (List UInt8)) (hx : xs.toList = sv l) {n : Nat} (hn : n = l.length) (hl : l.length ≤ 1000) {B : Nat} (hB : B ≤ w.heap.size) :
    So e B (w.alloc (.cells xs e)) (.slice (some ⟨w.heap.size, 0, none⟩) n n) l := by
  subst hn
  refine ⟨by simp, .inr ⟨w.heap.size, l.length, xs, rfl, hB, heap_alloc_new w _, Nat.le_refl _, by unfold maxLen; omega, ?_, ?_⟩⟩
  · have := congrArg List.length hx; simp at this; omega
  · rw [hx, Nat.mul_one]; exact List.take_of_length_le (by simp)
theorem Tryd.info9 : (Tryd.prog.info? 9).map (fun i => (i.zero, i.size, i.bytes)) = some (some (.string ⟨#[]⟩), 1, 16) := by kernel_rfl
set_option maxRecDepth 100000 in
theorem app41 {w : World} {ops : Array Oper} {rest : List Oper} {o : Oper} {a : Act} {Q : Exit → Act → World → Prop} (hgd : o.guard = none) (s x : Operand)
    (ho : o.op = .call { callee := .builtin .append, args := #[s, x], argTypes := #[41, 41] }) {B : Nat} {v : Value} {l : List (List UInt8)} (hs : a.eval s = v) (hown : So 9 B w v l)
    {A : Nat → Prop} {u : Value} {m : List (List UInt8)} (hx : a.eval x = u) (hsrc : Ss A w u m) (hlen : (l.length + m.length) * 16 ≤ lim) (hB : B ≤ w.heap.size)
    (h : ∀ v' w', So 9 B w' v' (l ++ m) → w.grownBy w' v.ownBlock → wpList Tryd.prog ops Q rest (a.put o.dst v') w') :
    wpList Tryd.prog ops Q (o :: rest) a w := by
  unfold lim at hlen
  refine wpl_app hgd s x 41 ho Tryd.underlying41 Tryd.info9 rfl (by decide) hs hown hx hsrc.1 (sv_one m) (by unfold maxLen; omega) (by omega) hB fun v' w' h1 h2 h3 h4 => h v' w' ?_ h2
  unfold So
  rw [List.length_append, sv_append]
  exact h1
theorem below_appS {B0 B : Nat} {e : TypeId} {W w w' : World} {v : Value} {l : List (List UInt8)} (h : Below B0 W w) (hown : So e B w v l) (hg : w.grownBy w' v.ownBlock) (hB : B0 ≤ B) (hle : B0 ≤ w.heap.size) : Below B0 W w' := below_app h hown hg hB hle

/-- draws and new blocks -/
def Gr (w w' : World) : Prop := ∃ q os, w' = Sort.grow (w.drewN q) os
theorem Gr.refl (w : World) : Gr w w := ⟨0, #[], by simp [Sort.grow]; rfl⟩
theorem Gr.dn {w w' : World} (h : Dn w w') : Gr w w' := by obtain ⟨n, rfl⟩ := h; exact ⟨n, #[], by simp⟩
theorem Gr.trans {a b c : World} (h : Gr a b) (k : Gr b c) : Gr a c := by
  obtain ⟨q, os, rfl⟩ := h
  obtain ⟨r, ps, rfl⟩ := k
  refine ⟨q + r, os ++ ps, ?_⟩
  simp only [Sort.grow, World.drewN]
  simp [Array.append_assoc, Nat.add_assoc]
theorem Gr.alloc {a b : World} (h : Gr a b) (o : Obj) : Gr a (b.alloc o) := h.trans ⟨0, #[o], by rw [Sort.alloc_eq_grow]; rfl⟩
theorem Gr.below {w w' : World} (h : Gr w w') : Below w.heap.size w w' := by
  obtain ⟨q, os, rfl⟩ := h
  exact ⟨rfl, rfl, rfl, by simp [Sort.grow, World.drewN], fun k hk => by
    simp only [Sort.grow, World.drewN]; rw [Array.getElem?_append_left hk]⟩
end Go.Proofs.YtahmihlpnlfefaaDoor
