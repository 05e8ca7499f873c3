/- Small words for reading memory: a slice value that reads as a list. No program is named here. Slices of rows. No program is named here. Maps with string keys, read as a function from keys to values. No program is named here. -/
import Derived.WalkKit
import Derived.WalkSpells
import Derived.WalkLawsBesides
import Derived.Laws.AppendOwnNone
import Derived.Maps.AppendAt
import Derived.Deep.DeepMust
import Derived.Deep.QuietTactic
import Derived.BigQuiet
import Derived.Deep.RegionHeld3
import Derived.Deep.DrawnRows
import Derived.Deep.DeepCutAuto
import Derived.Deep.LoopGhost
import Derived.Maps.OwnSet
import Derived.Maps.Views
set_option linter.unusedVariables false
set_option linter.unusedSimpArgs false
namespace Go.Proofs.YtbmhkdcmepfmbaaGreat
open Go.RowKit

/-- The most bytes that a slice takes which is read before a call. -/
def lim : Nat := 140737488351232
theorem lim_le : lim ≤ maxLen := by decide

/-- blocks below B -/
def Lt (B : Nat) (b : Nat) : Prop := b < B
/-- On the blocks of A both worlds are alike. -/
def Same (A : Nat → Prop) (w w' : World) : Prop := ∀ b, A b → w'.heap[b]? = w.heap[b]?
theorem Same.refl (A : Nat → Prop) (w : World) : Same A w w := fun _ _ => rfl
theorem Same.trans {A : Nat → Prop} {a b c : World} (h : Same A a b) (k : Same A b c) : Same A a c := fun i hi => (k i hi).trans (h i hi)
theorem Same.mono {A A' : Nat → Prop} {w w' : World} (h : Same A w w') (hA : ∀ b, A' b → A b) : Same A' w w' := fun b hb => h b (hA b hb)
theorem same_of {B : Nat} {w w' : World} (h : Below B w w') : Same (Lt B) w w' := fun b hb => h.block b hb
theorem Same.cell {A : Nat → Prop} {w w' : World} (h : Same A w w') {b o : Nat} (hb : A b) : w'.cell? ⟨b, o, none⟩ = w.cell? ⟨b, o, none⟩ := World.cell?_of_block (w := w) (a := ⟨b, o, none⟩) (h b hb)

/-- v is a slice of n elements, 'size' cells each; its cells are vs, all in blocks of A. -/
def Row (size : Nat) (A : Nat → Prop) (w : World) (v : Value) (n : Nat) (vs : List Value) : Prop :=
  vs.length = n * size ∧ ∃ (a : Option Addr) (c : Nat), v = .slice a n c ∧ n ≤ c ∧ (a = none → c = 0) ∧
    ∀ j u, vs[j]? = some u → ∃ b o, a = some ⟨b, o, none⟩ ∧ A b ∧ w.cell? ⟨b, o + j, none⟩ = some u

theorem Row.keepS {size n : Nat} {A : Nat → Prop} {w w' : World} {v : Value} {vs : List Value} (h : Row size A w v n vs) (hb : Same A w w') : Row size A w' v n vs := by
  obtain ⟨hl, a, c, rfl, hc, ha, H⟩ := h
  refine ⟨hl, a, c, rfl, hc, ha, fun j u hj => ?_⟩
  obtain ⟨b, o, ha, hB, hu⟩ := H j u hj
  exact ⟨b, o, ha, hB, (hb.cell hB).trans hu⟩

/-- what is read stays as it is where all old blocks do -/
theorem Row.up {size n : Nat} {A : Nat → Prop} {w w' : World} {v : Value} {vs : List Value} (h : Row size A w v n vs) (hb : Below w.heap.size w w') : Row size A w' v n vs := by
  obtain ⟨hl, a, c, rfl, hc, ha, H⟩ := h
  refine ⟨hl, a, c, rfl, hc, ha, fun j u hj => ?_⟩
  obtain ⟨b, o, ha, hB, hu⟩ := H j u hj
  exact ⟨b, o, ha, hB, (hb.cell (p := ⟨b, o + j, none⟩) (World.block_lt_of_cell? w ⟨b, o + j, none⟩ hu)).trans hu⟩
theorem Row.monoS {size n : Nat} {A A' : Nat → Prop} {w : World} {v : Value} {vs : List Value} (h : Row size A w v n vs) (hA : ∀ b, A b → A' b) : Row size A' w v n vs := by
  obtain ⟨hl, a, c, rfl, hc, ha, H⟩ := h
  refine ⟨hl, a, c, rfl, hc, ha, fun j u hj => ?_⟩
  obtain ⟨b, o, ha, hB, hu⟩ := H j u hj
  exact ⟨b, o, ha, hA b hB, hu⟩

/-- where a slice with elements lies -/
theorem Row.at1 {n : Nat} {A : Nat → Prop} {w : World} {v : Value} {vs : List Value} (h : Row 1 A w v n vs) : ∃ (a : Option Addr) (c : Nat), v = .slice a n c ∧ n ≤ c ∧ (a = none → c = 0) ∧
    ∀ j (hj : j < n), ∃ b o, a = some ⟨b, o, none⟩ ∧ A b ∧ w.cell? ⟨b, o + j, none⟩ = vs[j]? := by
  obtain ⟨hl, a, c, rfl, hc, ha, H⟩ := h
  refine ⟨a, c, rfl, hc, ha, fun j hj => ?_⟩
  have hj' : j < vs.length := by omega
  obtain ⟨b, o, ha, hB, hu⟩ := H j vs[j] (by simp [hj'])
  exact ⟨b, o, ha, hB, by rw [hu]; simp [hj']⟩

/-- an owned row, read -/
theorem Row.of_own {B size n : Nat} {e : TypeId} {w : World} {v : Value} {vs : List Value} (h : w.ownsRow B e size v n vs) : Row size (Lt w.heap.size) w v n vs := by
  obtain ⟨hl, h | ⟨g, cap, cur, hv, hb, hg, hn, hm, hs, ht⟩⟩ := h
  · obtain ⟨rfl, rfl⟩ := h
    have : vs = [] := List.eq_nil_of_length_eq_zero (by simpa using hl)
    subst this
    exact ⟨hl, none, 0, rfl, Nat.le_refl _, fun _ => rfl, fun j u hj => by simp at hj⟩
  · refine ⟨hl, _, _, hv, hn, by simp, fun j u hj => ⟨g, 0, rfl, (Array.getElem?_eq_some_iff.1 hg).1, ?_⟩⟩
    rw [← ht, List.getElem?_take] at hj
    split at hj
    · simp only [World.cell?, hg, Nat.zero_add]; simpa using hj
    · cases hj

theorem own_keep {B B' size n : Nat} {e : TypeId} {w w' : World} {v : Value} {vs : List Value} (h : w.ownsRow B e size v n vs) (hb : Below B' w w') (hB : w.heap.size ≤ B') : w'.ownsRow B e size v n vs := by
  obtain ⟨h0, h | ⟨g, cap, cur, hv, hbg, hg, r⟩⟩ := h
  · exact ⟨h0, .inl h⟩
  · exact ⟨h0, .inr ⟨g, cap, cur, hv, hbg, by rw [hb.block g (by have := (Array.getElem?_eq_some_iff.1 hg).1; omega)]; exact hg, r⟩⟩

theorem own_mono {B B' size n : Nat} {e : TypeId} {w : World} {v : Value} {vs : List Value} (h : w.ownsRow B e size v n vs) (hB : B' ≤ B) : w.ownsRow B' e size v n vs := by
  obtain ⟨h0, h | ⟨g, cap, cur, hv, hbg, r⟩⟩ := h
  · exact ⟨h0, .inl h⟩
  · exact ⟨h0, .inr ⟨g, cap, cur, hv, by omega, r⟩⟩

/-- behind an append -/
theorem below_app {B0 B size n : Nat} {e : TypeId} {W w w' : World} {v : Value} {vs : List Value} (h : Below B0 W w) (hown : w.ownsRow B e size v n vs) (hg : w.grownBy w' v.ownBlock) (hB : B0 ≤ B) (hle : B0 ≤ w.heap.size) : Below B0 W w' :=
  h.grown hg hle fun k hk => by have := (hown.lt k hk).1; omega

/-- the cells of bytes, of ints -/
def bv (l : List UInt8) : List Value := l.map fun x => .int .u8 (x.toNat : Int)
@[simp] theorem bv_length (l : List UInt8) : (bv l).length = l.length := by simp [bv]
theorem bv_append (l r : List UInt8) : bv (l ++ r) = bv l ++ bv r := by simp [bv]
theorem bv_one (l : List UInt8) : ∀ u ∈ bv l, u.oneCell' = true := by
  intro u hu; simp [bv] at hu; obtain ⟨x, _, rfl⟩ := hu; rfl
theorem bv_get (l : List UInt8) (j : Nat) (h : j < l.length) : (bv l)[j]? = some (.int .u8 (l[j].toNat : Int)) := by simp [bv, h]
def iv (l : List Int) : List Value := l.map fun x => .int .i64 x
@[simp] theorem iv_length (l : List Int) : (iv l).length = l.length := by simp [iv]
theorem iv_append (l r : List Int) : iv (l ++ r) = iv l ++ iv r := by simp [iv]
theorem iv_one (l : List Int) : ∀ u ∈ iv l, u.oneCell' = true := by
  intro u hu; simp [iv] at hu; obtain ⟨x, _, rfl⟩ := hu; rfl
theorem iv_get (l : List Int) (j : Nat) (h : j < l.length) : (iv l)[j]? = some (.int .i64 l[j]) := by simp [iv, h]

/-- v reads as the bytes l. -/
def Bs (A : Nat → Prop) (w : World) (v : Value) (l : List UInt8) : Prop := Row 1 A w v l.length (bv l) ∧ l.length ≤ lim
theorem Bs.keepS {A : Nat → Prop} {w w' : World} {v : Value} {l : List UInt8} (h : Bs A w v l) (hb : Same A w w') : Bs A w' v l := ⟨h.1.keepS hb, h.2⟩
theorem Bs.up {A : Nat → Prop} {w w' : World} {v : Value} {l : List UInt8} (h : Bs A w v l) (hb : Below w.heap.size w w') : Bs A w' v l := ⟨h.1.up hb, h.2⟩
theorem Bs.monoS {A A' : Nat → Prop} {w : World} {v : Value} {l : List UInt8} (h : Bs A w v l) (hA : ∀ b, A b → A' b) : Bs A' w v l := ⟨h.1.monoS hA, h.2⟩
theorem Bs.keep {B : Nat} {w w' : World} {v : Value} {l : List UInt8} (h : Bs (Lt B) w v l) (hb : Below B w w') : Bs (Lt B) w' v l := h.keepS (same_of hb)
theorem Bs.mono {B B' : Nat} {w : World} {v : Value} {l : List UInt8} (h : Bs (Lt B) w v l) (hB : B ≤ B') : Bs (Lt B') w v l := h.monoS fun _ hb => Nat.lt_of_lt_of_le hb hB
/-- v is a slice of bytes of the call's own (blocks from B on). -/
def Ob (e : TypeId) (B : Nat) (w : World) (v : Value) (l : List UInt8) : Prop := w.ownsRow B e 1 v l.length (bv l)
theorem Ob.bs {e : TypeId} {B : Nat} {w : World} {v : Value} {l : List UInt8} (h : Ob e B w v l) (hl : l.length ≤ lim) : Bs (Lt w.heap.size) w v l := ⟨Row.of_own h, hl⟩
theorem Bs.at {A : Nat → Prop} {w : World} {v : Value} {l : List UInt8} (h : Bs A w v l) : ∃ (a : Option Addr) (c : Nat), v = .slice a l.length c ∧ l.length ≤ c ∧ (a = none → c = 0) ∧
    ∀ j (hj : j < l.length), ∃ b o, a = some ⟨b, o, none⟩ ∧ A b ∧ w.cell? ⟨b, o + j, none⟩ = some (.int .u8 (l[j].toNat : Int)) := by
  obtain ⟨a, c, hv, hc, ha, H⟩ := h.1.at1
  exact ⟨a, c, hv, hc, ha, fun j hj => by obtain ⟨b, o, h1, h2, h3⟩ := H j hj; exact ⟨b, o, h1, h2, by rw [h3, bv_get l j hj]⟩⟩

/-- v reads as a list of ints. -/
def Is (A : Nat → Prop) (w : World) (v : Value) (l : List Int) : Prop := Row 1 A w v l.length (iv l) ∧ l.length * 8 ≤ lim ∧ ∀ x ∈ l, -9223372036854775808 ≤ x ∧ x ≤ 9223372036854775807
theorem Is.keepS {A : Nat → Prop} {w w' : World} {v : Value} {l : List Int} (h : Is A w v l) (hb : Same A w w') : Is A w' v l := ⟨h.1.keepS hb, h.2⟩
theorem Is.up {A : Nat → Prop} {w w' : World} {v : Value} {l : List Int} (h : Is A w v l) (hb : Below w.heap.size w w') : Is A w' v l := ⟨h.1.up hb, h.2⟩
theorem Is.monoS {A A' : Nat → Prop} {w : World} {v : Value} {l : List Int} (h : Is A w v l) (hA : ∀ b, A b → A' b) : Is A' w v l := ⟨h.1.monoS hA, h.2⟩
theorem Is.keep {B : Nat} {w w' : World} {v : Value} {l : List Int} (h : Is (Lt B) w v l) (hb : Below B w w') : Is (Lt B) w' v l := h.keepS (same_of hb)
theorem Is.mono {B B' : Nat} {w : World} {v : Value} {l : List Int} (h : Is (Lt B) w v l) (hB : B ≤ B') : Is (Lt B') w v l := h.monoS fun _ hb => Nat.lt_of_lt_of_le hb hB
theorem Is.at {A : Nat → Prop} {w : World} {v : Value} {l : List Int} (h : Is A w v l) : ∃ (a : Option Addr) (c : Nat), v = .slice a l.length c ∧ l.length ≤ c ∧ (a = none → c = 0) ∧
    ∀ j (hj : j < l.length), ∃ b o, a = some ⟨b, o, none⟩ ∧ A b ∧ w.cell? ⟨b, o + j, none⟩ = some (.int .i64 l[j]) := by
  obtain ⟨a, c, hv, hc, ha, H⟩ := h.1.at1
  exact ⟨a, c, hv, hc, ha, fun j hj => by obtain ⟨b, o, h1, h2, h3⟩ := H j hj; exact ⟨b, o, h1, h2, by rw [h3, iv_get l j hj]⟩⟩

/-- each value reads as its bytes -/
def Each (A : Nat → Prop) (w : World) (vs : List Value) (l : List (List UInt8)) : Prop := vs.length = l.length ∧ ∀ i (h : i < l.length) (h' : i < vs.length), Bs A w vs[i] l[i]
theorem Each.keepS {A : Nat → Prop} {w w' : World} {vs : List Value} {l : List (List UInt8)} (h : Each A w vs l) (hb : Same A w w') : Each A w' vs l := ⟨h.1, fun i a b => (h.2 i a b).keepS hb⟩
theorem Each.up {A : Nat → Prop} {w w' : World} {vs : List Value} {l : List (List UInt8)} (h : Each A w vs l) (hb : Below w.heap.size w w') : Each A w' vs l := ⟨h.1, fun i a b => (h.2 i a b).up hb⟩
theorem Each.monoS {A A' : Nat → Prop} {w : World} {vs : List Value} {l : List (List UInt8)} (h : Each A w vs l) (hA : ∀ b, A b → A' b) : Each A' w vs l := ⟨h.1, fun i a b => (h.2 i a b).monoS hA⟩
theorem Each.keep {B : Nat} {w w' : World} {vs : List Value} {l : List (List UInt8)} (h : Each (Lt B) w vs l) (hb : Below B w w') : Each (Lt B) w' vs l := h.keepS (same_of hb)
theorem Each.mono {B B' : Nat} {w : World} {vs : List Value} {l : List (List UInt8)} (h : Each (Lt B) w vs l) (hB : B ≤ B') : Each (Lt B') w vs l := h.monoS fun _ hb => Nat.lt_of_lt_of_le hb hB
theorem Each.one {A : Nat → Prop} {w : World} {vs : List Value} {l : List (List UInt8)} (h : Each A w vs l) : ∀ u ∈ vs, u.oneCell' = true := by
  intro u hu
  obtain ⟨i, hi, rfl⟩ := List.mem_iff_getElem.1 hu
  obtain ⟨a, c, hv, _⟩ := (h.2 i (by have := h.1; omega) hi).at
  rw [hv]; rfl
theorem Each.nil (A : Nat → Prop) (w : World) : Each A w [] [] := ⟨rfl, fun i h => by simp at h⟩
theorem Each.snoc {A : Nat → Prop} {w : World} {vs : List Value} {l : List (List UInt8)} {v : Value} {x : List UInt8} (h : Each A w vs l) (hx : Bs A w v x) : Each A w (vs ++ [v]) (l ++ [x]) := by
  refine ⟨by simp [h.1], fun i a b => ?_⟩
  by_cases hi : i < l.length
  · rw [List.getElem_append_left (by have := h.1; omega), List.getElem_append_left hi]; exact h.2 i hi (by have := h.1; omega)
  · have e : i = l.length := by simp at a; omega
    subst e
    rw [List.getElem_append_right (by have := h.1; omega), List.getElem_append_right (Nat.le_refl _)]
    simpa using hx
/-- v reads as a list of lists of bytes. -/
def Bss (A : Nat → Prop) (w : World) (v : Value) (l : List (List UInt8)) : Prop := ∃ vs, Row 1 A w v l.length vs ∧ Each A w vs l ∧ l.length * 24 ≤ lim
theorem Bss.keepS {A : Nat → Prop} {w w' : World} {v : Value} {l : List (List UInt8)} (h : Bss A w v l) (hb : Same A w w') : Bss A w' v l := let ⟨vs, a, b, c⟩ := h; ⟨vs, a.keepS hb, b.keepS hb, c⟩
theorem Bss.up {A : Nat → Prop} {w w' : World} {v : Value} {l : List (List UInt8)} (h : Bss A w v l) (hb : Below w.heap.size w w') : Bss A w' v l := let ⟨vs, a, b, c⟩ := h; ⟨vs, a.up hb, b.up hb, c⟩
theorem Bss.monoS {A A' : Nat → Prop} {w : World} {v : Value} {l : List (List UInt8)} (h : Bss A w v l) (hA : ∀ b, A b → A' b) : Bss A' w v l := let ⟨vs, a, b, c⟩ := h; ⟨vs, a.monoS hA, b.monoS hA, c⟩
theorem Bss.keep {B : Nat} {w w' : World} {v : Value} {l : List (List UInt8)} (h : Bss (Lt B) w v l) (hb : Below B w w') : Bss (Lt B) w' v l := h.keepS (same_of hb)
theorem Bss.mono {B B' : Nat} {w : World} {v : Value} {l : List (List UInt8)} (h : Bss (Lt B) w v l) (hB : B ≤ B') : Bss (Lt B') w v l := h.monoS fun _ hb => Nat.lt_of_lt_of_le hb hB
theorem Bss.at {A : Nat → Prop} {w : World} {v : Value} {l : List (List UInt8)} (h : Bss A w v l) : ∃ (a : Option Addr) (c : Nat), v = .slice a l.length c ∧ l.length ≤ c ∧ (a = none → c = 0) ∧
    ∀ j (hj : j < l.length), ∃ b o u, a = some ⟨b, o, none⟩ ∧ A b ∧ w.cell? ⟨b, o + j, none⟩ = some u ∧ Bs A w u l[j] := by
  obtain ⟨vs, h1, h2, h3⟩ := h
  obtain ⟨a, c, hv, hc, ha, H⟩ := h1.at1
  refine ⟨a, c, hv, hc, ha, fun j hj => ?_⟩
  have hj' : j < vs.length := by have := h2.1; omega
  obtain ⟨b, o, h1, h2', h3⟩ := H j hj
  exact ⟨b, o, vs[j], h1, h2', by rw [h3]; simp [hj'], h2.2 j hj hj'⟩

theorem bt {W a b : World} (h : Below W.heap.size W a) (k : Below a.heap.size a b) : Below W.heap.size W b := h.trans (k.mono h.size)
theorem up_alloc (w : World) (o : Obj) : Below w.heap.size w (w.alloc o) := (Below.refl _ _).alloc (Nat.le_refl _) o
/-- w' is w after some draws. -/
def Dn (w w' : World) : Prop := ∃ n, w' = w.drewN n
theorem Dn.refl (w : World) : Dn w w := ⟨0, rfl⟩
theorem Dn.more {w w' : World} (h : Dn w w') (n : Nat) : Dn w (w'.drewN n) := by
  obtain ⟨m, rfl⟩ := h; exact ⟨m + n, World.drewN_drewN _ _ _⟩
theorem Dn.drew {w w' : World} (h : Dn w w') : Dn w w'.drew := h.more 1
theorem Dn.trans {a b c : World} (h : Dn a b) (k : Dn b c) : Dn a c := by
  obtain ⟨m, rfl⟩ := k; exact h.more m
theorem Dn.below {w w' : World} (h : Dn w w') (B : Nat) : Below B w w' := by
  obtain ⟨m, rfl⟩ := h; exact ⟨rfl, rfl, rfl, Nat.le_refl _, fun _ _ => rfl⟩
theorem Hid.mk' {p : Prop} (h : p) : Hid p := h

theorem bcell {W w1 : World} (hb : Below W.heap.size W w1) : (∀ b o, b < W.heap.size → w1.cell? ⟨b, o, none⟩ = W.cell? ⟨b, o, none⟩) ∧ (∀ b o, b < W.heap.size → w1.frozen? ⟨b, o, none⟩ = W.frozen? ⟨b, o, none⟩) :=
  ⟨fun b o h => hb.cell (p := ⟨b, o, none⟩) h, fun b o h => hb.frozen (p := ⟨b, o, none⟩) h⟩

/-- append onto a slice of the call's own, from whatever can be read -/
theorem run_app {P : Program} {w : World} (t ty : TypeId) {e size bytes : Nat} {z : Value} (ht : P.underlying t = some (.slice e)) (hinfo : (P.info? e).map (fun i => (i.zero, i.size, i.bytes)) = some (some z, size, bytes)) (hzs : z.cells.size = size) (hsz : 0 < size)
    {B n : Nat} {v : Value} {xs : List Value} (hown : w.ownsRow B e size v n xs) {A : Nat → Prop} {m : Nat} {u : Value} {news : List Value} (hsrc : Row size A w u m news) (h1 : ∀ u ∈ news, u.oneCell' = true)
    (hlen : n + m ≤ maxLen) (hbytes : (n + m) * bytes ≤ 140737488355328) (hB : B ≤ w.heap.size) :
    ∃ v' w', (Builtin.append_ #[t, t] ty #[v, u]).run P w = .ok v' w' ∧ w'.ownsRow B e size v' (n + m) (xs ++ news) ∧ w.grownBy w' v.ownBlock ∧
      (v' = .slice none 0 0 ↔ v = .slice none 0 0 ∧ m = 0) ∧ (v'.ownBlock = v.ownBlock ∨ v'.ownBlock = some w.heap.size) := by
  obtain ⟨i0, hi, hz0, hz1, hz2⟩ := info_parts hinfo
  obtain ⟨hl, ad, c, rfl, hc, ha, H⟩ := hsrc
  cases ad with
  | none =>
    have hc0 := ha rfl
    have hm : m = 0 := by omega
    subst hc0; subst hm
    have hn : news = [] := List.eq_nil_of_length_eq_zero (by simpa using hl)
    subst hn
    refine ⟨v, w, run_append_owned_none (P := P) (w := w) B t ty e i0 size ht hi v n xs hown, by simpa using hown, ⟨rfl, rfl, rfl, Nat.le_refl _, fun _ _ _ => rfl⟩, by simp, Or.inl rfl⟩
  | some p =>
    have hn : ∀ j u, news[j]? = some u → w.cell? (p.add j) = some u := by
      intro j u hj
      obtain ⟨b, o, hp, _, hu⟩ := H j u hj
      simp only [Option.some.injEq] at hp
      subst hp
      have : (⟨b, o, none⟩ : Addr).add j = ⟨b, o + j, none⟩ := by unfold Addr.add; split <;> simp_all
      rw [this, hu]
    exact run_append_own_at w B t ty e i0 z size bytes ht hi hz0 hz1 hz2 hzs hsz v n xs hown p m c news hl hn h1 hlen hbytes hB

/-- the same at the walk's operation -/
theorem wpl_app {P : Program} {w : World} {ops : Array Oper} {rest : List Oper} {o : Oper} {a : Act} {Q : Exit → Act → World → Prop} (hgd : o.guard = none) (s x : Operand) (t : TypeId)
    (ho : o.op = .call { callee := .builtin .append, args := #[s, x], argTypes := #[t, t] })
    {e size bytes : Nat} {z : Value} (ht : P.underlying t = some (.slice e)) (hinfo : (P.info? e).map (fun i => (i.zero, i.size, i.bytes)) = some (some z, size, bytes)) (hzs : z.cells.size = size) (hsz : 0 < size)
    {B n : Nat} {v : Value} {xs : List Value} (hs : a.eval s = v) (hown : w.ownsRow B e size v n xs) {A : Nat → Prop} {m : Nat} {u : Value} {news : List Value} (hx : a.eval x = u) (hsrc : Row size A w u m news) (h1 : ∀ u ∈ news, u.oneCell' = true)
    (hlen : n + m ≤ maxLen) (hbytes : (n + m) * bytes ≤ 140737488355328) (hB : B ≤ w.heap.size)
    (h : ∀ v' w', w'.ownsRow B e size v' (n + m) (xs ++ news) → w.grownBy w' v.ownBlock → (v' = .slice none 0 0 ↔ v = .slice none 0 0 ∧ m = 0) → (v'.ownBlock = v.ownBlock ∨ v'.ownBlock = some w.heap.size) → wpList P ops Q rest (a.put o.dst v') w') :
    wpList P ops Q (o :: rest) a w := by
  refine wpList_plain hgd fun K hK => ?_
  obtain ⟨v', w', hr, h2, h3, h4, h5⟩ := run_app (P := P) (w := w) t o.type ht hinfo hzs hsz hown hsrc h1 hlen hbytes hB
  unfold Oper.wp execOp
  simp only [ho, resolve, invoke, builtin, Sem.run_bind, Sem.run_pure, Result.andThen_ok, List.map_toArray, List.map_cons, List.map_nil, hs, hx, hr]
  exact hK _ _ (h v' w' h2 h3 h4 h5)

/-- a literal slice of one element, just laid -/
theorem row_one {w : World} {x : Value} {e : TypeId} : Row 1 (Lt (w.heap.size + 1)) (w.alloc (.cells #[x] e)) (.slice (some ⟨w.heap.size, 0, none⟩) 1 1) 1 [x] := by
  refine ⟨rfl, _, _, rfl, Nat.le_refl _, by simp, fun j u hj => ⟨_, _, rfl, Nat.lt_succ_self _, ?_⟩⟩
  match j, hj with
  | 0, hj => simp at hj; subst hj; simp
/-- the empty literal, just laid, is the call's own -/
theorem own_empty {B : Nat} {w : World} {e : TypeId} (hB : B ≤ w.heap.size) : (w.alloc (.cells #[] e)).ownsRow B e 1 (.slice (some ⟨w.heap.size, 0, none⟩) 0 0) 0 [] :=
  ⟨rfl, .inr ⟨w.heap.size, 0, #[], rfl, hB, heap_alloc_new w _, Nat.le_refl _, by decide, rfl, rfl⟩⟩

theorem ob_empty {B : Nat} {w : World} {e : TypeId} (hB : B ≤ w.heap.size) : Ob e B (w.alloc (.cells #[] e)) (.slice (some ⟨w.heap.size, 0, none⟩) 0 0) [] := own_empty hB
theorem ob_nil {B : Nat} {w : World} {e : TypeId} : Ob e B w (.slice none 0 0) [] := World.ownsRow_nil w B e 1
/-- an owned row of bytes whose head is known -/
theorem Ob.len {e : TypeId} {B g n cap : Nat} {w : World} {l : List UInt8} (h : Ob e B w (.slice (some ⟨g, 0, none⟩) n cap) l) : n = l.length ∧ B ≤ g ∧ g < w.heap.size := by
  obtain ⟨_, h | ⟨g', cap', cur, hv, hb, hg, _⟩⟩ := h
  · cases h.1
  · simp only [Value.slice.injEq, Option.some.injEq, Addr.mk.injEq] at hv
    obtain ⟨⟨rfl, _⟩, rfl, rfl⟩ := hv
    exact ⟨rfl, hb, (Array.getElem?_eq_some_iff.1 hg).1⟩
theorem Ob.form {e : TypeId} {B : Nat} {w : World} {v : Value} {l : List UInt8} (h : Ob e B w v l) (hl : 0 < l.length) : ∃ g cap, v = .slice (some ⟨g, 0, none⟩) l.length cap := by
  obtain ⟨_, h | ⟨g', cap', cur, hv, hb, hg, _⟩⟩ := h
  · have := h.2; omega
  · exact ⟨_, _, hv⟩
theorem Ob.cell {e : TypeId} {B g n cap : Nat} {w : World} {l : List UInt8} (h : Ob e B w (.slice (some ⟨g, 0, none⟩) n cap) l) (j : Nat) (hj : j < l.length) : w.cell? ⟨g, j, none⟩ = some (.int .u8 (l[j].toNat : Int)) := by
  obtain rfl := h.len.1
  rw [World.ownsRow.cellAt h j (by omega), bv_get l j hj]
theorem Ob.frozen {e : TypeId} {B g n cap : Nat} {w : World} {l : List UInt8} (h : Ob e B w (.slice (some ⟨g, 0, none⟩) n cap) l) (j : Nat) : w.frozen? ⟨g, j, none⟩ = false := by
  obtain rfl := h.len.1
  exact World.ownsRow.frozenAt h j
theorem Ob.set {e : TypeId} {B g n cap : Nat} {w : World} {l : List UInt8} (h : Ob e B w (.slice (some ⟨g, 0, none⟩) n cap) l) (j : Nat) (x : UInt8) : Ob e B (w.setCell ⟨g, j, none⟩ (.int .u8 (x.toNat : Int))) (.slice (some ⟨g, 0, none⟩) n cap) (l.set j x) := by
  obtain rfl := h.len.1
  have := (World.ownsRow.stored h j (.int .u8 (x.toNat : Int))).1
  unfold Ob
  rw [List.length_set]
  have e : bv (l.set j x) = (bv l).set j (.int .u8 (x.toNat : Int)) := by simp [bv, List.map_set]
  rw [e]; exact this
theorem Ob.keep {e : TypeId} {B B' : Nat} {w w' : World} {v : Value} {l : List UInt8} (h : Ob e B w v l) (hb : Below B' w w') (hB : w.heap.size ≤ B') : Ob e B w' v l := own_keep h hb hB
theorem Ob.drew {e : TypeId} {B : Nat} {w : World} {v : Value} {l : List UInt8} (h : Ob e B w v l) (n : Nat) : Ob e B (w.drewN n) v l := h
theorem Ob.alloc {e : TypeId} {B : Nat} {w : World} {v : Value} {l : List UInt8} (h : Ob e B w v l) (o : Obj) : Ob e B (w.alloc o) v l := World.ownsRow.alloc h o
theorem Ob.lt {e : TypeId} {B : Nat} {w : World} {v : Value} {l : List UInt8} (h : Ob e B w v l) : ∀ k, v.ownBlock = some k → B ≤ k ∧ k < w.heap.size := World.ownsRow.lt h
theorem Ob.mono {e : TypeId} {B B' : Nat} {w : World} {v : Value} {l : List UInt8} (h : Ob e B w v l) (hB : B' ≤ B) : Ob e B' w v l := own_mono h hB

/-- make of bytes -/
def zeros (n : Nat) : Array Value := madeCells #[.int .u8 0] n
theorem zeros_list (n : Nat) : (zeros n).toList = bv (List.replicate n 0) := by
  unfold zeros; rw [toList_madeCells_one]; simp [bv]
theorem run_mk {P : Program} (t : TypeId) {e : Nat} (ht : P.underlying t = some (.slice e)) (hinfo : (P.info? e).map (fun i => (i.zero, i.size, i.bytes)) = some (some (.int .u8 0), 1, 1)) (n : Nat) (hn : n ≤ lim) (w : World) :
    (Instr.makeSlice t (.int .i64 (n : Int)) (.int .i64 (n : Int))).run P w = .ok (.slice (some ⟨w.heap.size, 0, none⟩) n n) (w.alloc (.cells (zeros n) e)) := by
  obtain ⟨i0, hi, hz0, hz1, hz2⟩ := info_parts hinfo
  unfold lim at hn
  have hr := run_make (P := P) w t e i0 (.int .u8 0) ht hi hz0 .i64 .i64 n n (by omega) (Int.le_refl _) (by rw [hz2]; omega) (by omega)
  simpa [hz1, zeros, Value.cells] using hr
theorem ob_zeros (n : Nat) (hn : n ≤ lim) (w : World) (e : TypeId) : Ob e w.heap.size (w.alloc (.cells (zeros n) e)) (.slice (some ⟨w.heap.size, 0, none⟩) n n) (List.replicate n 0) := by
  have := World.ownsRow_lit (base := w.heap.size) (e := e) (size := 1) w (zeros n) n (Nat.le_refl _) (Nat.le_trans hn lim_le) (by simp [zeros, size_madeCells])
  unfold Ob
  rw [← zeros_list, List.length_replicate]; exact this

/-- string(b) -/
theorem run_str {P : Program} (src dst : TypeId) {e : Nat} (hs : P.underlying src = some (.slice e)) (he : P.underlying e = some (.int .u8)) (hd : P.underlying dst = some .string) {A : Nat → Prop} {w : World} {v : Value} {l : List UInt8} (h : Bs A w v l) :
    (convert src dst v).run P w = .ok (.string ⟨l.toArray⟩) w := by
  obtain ⟨a, c, rfl, hc, hn, H⟩ := h.at
  cases a with
  | none =>
    have : l = [] := by cases l with | nil => rfl | cons x r => obtain ⟨b, o, h, _⟩ := H 0 (by simp); cases h
    subst this
    exact run_convert_bytes_nil w src e hs he 0 c dst hd
  | some p =>
    refine run_convert_bytes_back w src dst e p c l hs he hd fun j hj => ?_
    obtain ⟨b, o, hp, _, hu⟩ := H j hj
    simp only [Option.some.injEq] at hp
    subst hp
    have e : (⟨b, o, none⟩ : Addr).add j = ⟨b, o + j, none⟩ := by unfold Addr.add; split <;> simp_all
    rw [e, hu]

theorem ba_ext (s : List UInt8) (a b : Nat) : (⟨s.toArray⟩ : ByteArray).extract a b = ⟨((s.take b).drop a).toArray⟩ := by
  apply ByteArray.ext
  rw [ByteArray.data_extract]
  simp [List.drop_take]
theorem ba_take (s : List UInt8) (k : Nat) : (⟨s.toArray⟩ : ByteArray).extract 0 k = ⟨(s.take k).toArray⟩ := by
  rw [ba_ext]; rfl
theorem ba_drop (s : List UInt8) (k : Nat) : (⟨s.toArray⟩ : ByteArray).extract k s.length = ⟨(s.drop k).toArray⟩ := by
  rw [ba_ext, List.take_length]
/-- a contract that leaves the world, met inside a region that draws -/
theorem quiet_flip {P : Program} {f : FuncId} {args : Array Value} {w : World} {n : Nat} {v : Value} (h : Calls P f args (w.drewN n) fun e w' => e = .returned v ∧ w.drewN n = w') : Calls P f args (w.drewN n) fun e w'' => e = .returned v ∧ ∃ m, w'' = w.drewN m :=
  h.mono fun _ _ ⟨he, hm⟩ => ⟨he, n, hm.symm⟩
theorem quiet_dn {P : Program} {f : FuncId} {args : Array Value} {w : World} {n : Nat} {v : Value} (h : Calls P f args (w.drewN n) fun e w' => e = .returned v ∧ Dn (w.drewN n) w') : Calls P f args (w.drewN n) fun e w'' => e = .returned v ∧ ∃ m, w'' = w.drewN m :=
  h.mono fun _ _ ⟨he, hm⟩ => ⟨he, (((Dn.refl w).more n).trans hm)⟩
theorem ba_app (a b : List UInt8) : (⟨a.toArray⟩ : ByteArray) ++ ⟨b.toArray⟩ = ⟨(a ++ b).toArray⟩ := by
  apply ByteArray.ext
  rw [ByteArray.data_append]
  simp
/-- the very world -/
def Eqw (w w' : World) : Prop := w = w'
theorem Eqw.refl (w : World) : Eqw w w := rfl
theorem ret_b {a b : Bool} (h : a = b) : Ending.returned (.bool a) = .returned (.bool b) := by rw [h]
theorem ret_n {k : IntKind} {a b : Int} (h : a = b) : Ending.returned (.int k a) = .returned (.int k b) := by rw [h]
theorem ret_s {a b : List UInt8} (h : a = b) : Ending.returned (.string ⟨a.toArray⟩) = .returned (.string ⟨b.toArray⟩) := by rw [h]
/-- all blocks of cells but b are as they were -/
def CellsBut (b : Nat) (w w' : World) : Prop := ∀ (k : Nat) (c : Array Value) (e : TypeId) (fr : Nat × Nat), k ≠ b → w.heap[k]? = some (.cells c e fr) → w'.heap[k]? = some (.cells c e fr)
theorem CellsBut.refl (b : Nat) (w : World) : CellsBut b w w := fun _ _ _ _ _ h => h
theorem CellsBut.trans {b : Nat} {w w' w'' : World} (h : CellsBut b w w') (k : CellsBut b w' w'') : CellsBut b w w'' := fun i c e fr hi hc => k i c e fr hi (h i c e fr hi hc)
theorem CellsBut.of_below {b : Nat} {w w' : World} (h : Below w.heap.size w w') : CellsBut b w w' := fun i c e fr _ hc => by
  rw [h.block i (Array.getElem?_eq_some_iff.1 hc).1]; exact hc
theorem CellsBut.of_grown {b : Nat} {w w' : World} {mb : Nat} (h : w.grownBy w' (some mb)) (hm : ∀ c e fr, w.heap[mb]? ≠ some (.cells c e fr)) : CellsBut b w w' := fun i c e fr _ hc => by
  rw [h.block i (Array.getElem?_eq_some_iff.1 hc).1 (fun e => by cases e; exact hm _ _ _ hc)]; exact hc
theorem CellsBut.setCell {b o : Nat} {w : World} (u : Value) : CellsBut b w (w.setCell ⟨b, o, none⟩ u) := fun i c e fr hi hc => by
  rw [Below.heap_setCell _ _ _ _ hi]; exact hc
/-- what is read stays, if block b holds one cell and that is none of it -/
theorem Row.but {size n b : Nat} {A : Nat → Prop} {w w' : World} {v : Value} {vs : List Value} (h : Row size A w v n vs) (hk : CellsBut b w w') {u : Value} {e : TypeId} {fr : Nat × Nat} (hb : w.heap[b]? = some (.cells #[u] e fr)) (hu : u ∉ vs) : Row size A w' v n vs := by
  obtain ⟨hl, a, c, rfl, hc, ha, H⟩ := h
  refine ⟨hl, a, c, rfl, hc, ha, fun j x hj => ?_⟩
  obtain ⟨b', o, ha, hB, hx⟩ := H j x hj
  refine ⟨b', o, ha, hB, ?_⟩
  have hne : b' ≠ b := by
    rintro rfl
    simp only [World.cell?, hb] at hx
    rw [Option.isSome_none, if_neg (by decide)] at hx
    have hmem : x = u := by
      rcases Nat.eq_zero_or_pos (o + j) with h0 | h0
      · rw [h0] at hx; simpa using hx.symm
      · rw [Array.getElem?_eq_none (by simp; omega)] at hx; cases hx
    subst hmem
    exact hu (List.mem_iff_getElem?.2 ⟨j, hj⟩)
  simp only [World.cell?] at hx ⊢
  cases hh : w.heap[b']? with
  | none => rw [hh] at hx; cases hx
  | some ob =>
    rw [hh] at hx
    cases ob with
    | cells c e' fr' => rw [hk b' c e' fr' hne hh]; exact hx
    | _ => cases hx
theorem Bs.but {b : Nat} {A : Nat → Prop} {w w' : World} {v : Value} {l : List UInt8} (h : Bs A w v l) (hk : CellsBut b w w') {r : Option Nat} {e : TypeId} {fr : Nat × Nat} (hb : w.heap[b]? = some (.cells #[.map r] e fr)) : Bs A w' v l :=
  ⟨h.1.but hk hb (by simp [bv]), h.2⟩
theorem Ob.but {e' : TypeId} {B b : Nat} {w w' : World} {v : Value} {l : List UInt8} (h : Ob e' B w v l) (hk : CellsBut b w w') {c : Array Value} {e : TypeId} {fr : Nat × Nat} (hb : w.heap[b]? = some (.cells c e fr)) (hne : e' ≠ e) : Ob e' B w' v l := by
  obtain ⟨h0, h | ⟨g, cap, cur, hv, hbg, hg, r⟩⟩ := h
  · exact ⟨h0, .inl h⟩
  · exact ⟨h0, .inr ⟨g, cap, cur, hv, hbg, hk g cur e' _ (by rintro rfl; rw [hb] at hg; cases hg; exact hne rfl) hg, r⟩⟩
/-- a box of one cell -/
theorem cell_of {w : World} {b : Nat} {c : Value} {e : TypeId} (h : w.heap[b]? = some (.cells #[c] e (0, 0))) : w.cell? ⟨b, 0, none⟩ = some c ∧ w.frozen? ⟨b, 0, none⟩ = false := by
  simp [World.cell?, World.frozen?, h]
theorem box_set {w : World} {b : Nat} {c : Value} {e : TypeId} (h : w.heap[b]? = some (.cells #[c] e (0, 0))) (u : Value) : (w.setCell ⟨b, 0, none⟩ u).heap[b]? = some (.cells #[u] e (0, 0)) := by
  rw [heap_setCell_same w b 0 #[c] e u h]; rfl

/-- block g is a row of bytes of the call's own that begins with l; none of its cells is frozen -/
def Om (e : TypeId) (g : Nat) (w : World) (l : List UInt8) : Prop :=
  ∃ (cur : Array Value) (lo hi : Nat), w.heap[g]? = some (.cells cur e (lo, hi)) ∧ l.length ≤ cur.size ∧ cur.size ≤ lo ∧ cur.toList.take l.length = bv l
theorem Om.cell {e : TypeId} {g : Nat} {w : World} {l : List UInt8} (h : Om e g w l) (j : Nat) (hj : j < l.length) : w.cell? ⟨g, j, none⟩ = some (.int .u8 (l[j].toNat : Int)) := by
  obtain ⟨cur, lo, hi, hg, h1, h2, h3⟩ := h
  have : (cur.toList.take l.length)[j]? = some (.int .u8 (l[j].toNat : Int)) := by rw [h3, bv_get l j hj]
  rw [List.getElem?_take, if_pos hj] at this
  simp only [World.cell?, hg]
  simpa using this
theorem Om.frozen {e : TypeId} {g : Nat} {w : World} {l : List UInt8} (h : Om e g w l) (j : Nat) (hj : j < l.length) : w.frozen? ⟨g, j, none⟩ = false := by
  obtain ⟨cur, lo, hi, hg, h1, h2, h3⟩ := h
  simp only [World.frozen?, hg]
  simp; omega
theorem Om.set {e : TypeId} {g : Nat} {w : World} {l : List UInt8} (h : Om e g w l) (j : Nat) (x : UInt8) (y : Int) (hy : y = (x.toNat : Int)) : Om e g (w.setCell ⟨g, j, none⟩ (.int .u8 y)) (l.set j x) := by
  obtain ⟨cur, lo, hi, hg, h1, h2, h3⟩ := h
  subst hy
  refine ⟨cur.setIfInBounds j (.int .u8 (x.toNat : Int)), lo, hi, ?_, by simpa using h1, by simpa using h2, ?_⟩
  · simp [World.setCell, Array.getElem?_modify, hg]
  · rw [Array.toList_setIfInBounds, List.length_set, List.take_set, h3]
    simp [bv, List.map_set]
theorem Om.bs {e : TypeId} {g c : Nat} {w : World} {l : List UInt8} (h : Om e g w l) (hc : l.length ≤ c) (hl : l.length ≤ lim) : Bs (Lt w.heap.size) w (.slice (some ⟨g, 0, none⟩) l.length c) l := by
  have h0 := h
  obtain ⟨cur, lo, hi, hg, h1, h2, h3⟩ := h
  refine ⟨⟨by simp, _, _, rfl, hc, by simp, fun j u hj => ⟨g, 0, rfl, (Array.getElem?_eq_some_iff.1 hg).1, ?_⟩⟩, hl⟩
  have hj' : j < l.length := by have := (List.getElem?_eq_some_iff.1 hj).1; simpa using this
  rw [bv_get l j hj'] at hj
  rw [Nat.zero_add, h0.cell j hj', ← hj]
theorem Om.keep {e : TypeId} {g B : Nat} {w w' : World} {l : List UInt8} (h : Om e g w l) (hb : Below B w w') (hB : g < B) : Om e g w' l := by
  obtain ⟨cur, lo, hi, hg, r⟩ := h
  exact ⟨cur, lo, hi, by rw [hb.block g hB]; exact hg, r⟩
theorem Om.lt {e : TypeId} {g : Nat} {w : World} {l : List UInt8} (h : Om e g w l) : g < w.heap.size := by
  obtain ⟨cur, lo, hi, hg, r⟩ := h; exact (Array.getElem?_eq_some_iff.1 hg).1
/-- []byte(s) -/
theorem run_bytes {P : Program} (src dst : TypeId) {e : Nat} (hs : P.underlying src = some .string) (hd : P.underlying dst = some (.slice e)) (he : P.underlying e = some (.int .u8)) (l : List UInt8) (w : World) :
    ∃ c w', (convert src dst (.string ⟨l.toArray⟩)).run P w = .ok (.slice (some ⟨w.heap.size, 0, none⟩) l.length c) w' ∧ Om e w.heap.size w' l ∧ l.length ≤ c ∧ Below w.heap.size w w' ∧ w'.heap.size = w.heap.size + 1 := by
  have h := run_bytes_of_string (P := P) w src dst e ⟨l.toArray⟩ hs hd he
  refine ⟨_, _, h, ⟨_, _, _, heap_alloc_new _ _, ?_, Nat.le_refl _, ?_⟩, grownCap_ge _ _ _ _, (Below.refl _ _).drew.alloc (Nat.le_refl _) _, by simp⟩
  · simp [bytesRow]
  · simp [bytesRow, bv]

/-- What a call says that gives bytes of its own. -/
def RetOb (e : TypeId) (w : World) (l : List UInt8) (E : Ending) (w' : World) : Prop := ∃ v', E = .returned v' ∧ Below w.heap.size w w' ∧ Ob e w.heap.size w' v' l

end Go.Proofs.YtbmhkdcmepfmbaaGreat
set_option linter.unusedVariables false
set_option linter.unusedSimpArgs false
namespace Go.Proofs.YtbmhkdcmepfmbaaGreat
open Go.RowKit
theorem Row.cutTo {A : Nat → Prop} {w : World} {a : Option Addr} {n m c : Nat} {vs : List Value} (h : Row 1 A w (.slice a n c) n vs) (hm : m ≤ n) : Row 1 A w (.slice a m c) m (vs.take m) := by
  obtain ⟨hl, a', c', hv, hc, ha, H⟩ := h
  cases hv
  refine ⟨by simp; omega, a, c, rfl, by omega, ha, fun j u hj => H j u ?_⟩
  rw [List.getElem?_take] at hj
  split at hj
  · exact hj
  · cases hj
/-- v[m:] where that is not the end -/
theorem Row.cutOff {A : Nat → Prop} {w : World} {b o n m c : Nat} {vs : List Value} (h : Row 1 A w (.slice (some ⟨b, o, none⟩) n c) n vs) (hm : m ≤ n) : Row 1 A w (.slice (some ⟨b, o + m, none⟩) (n - m) (c - m)) (n - m) (vs.drop m) := by
  obtain ⟨hl, a', c', hv, hc, ha, H⟩ := h
  cases hv
  refine ⟨by simp; omega, _, _, rfl, by omega, by simp, fun j u hj => ?_⟩
  rw [List.getElem?_drop] at hj
  obtain ⟨b', o', he, hA, hu⟩ := H _ _ hj
  cases he
  exact ⟨b, o + m, rfl, hA, by rw [← hu, Nat.add_assoc]⟩
theorem Row.void {A : Nat → Prop} {w : World} {a : Option Addr} {c : Nat} (h : a = none → c = 0) : Row 1 A w (.slice a 0 c) 0 [] := ⟨rfl, a, c, rfl, by omega, h, fun j u hj => by simp at hj⟩
theorem addr_add (b o m : Nat) : (⟨b, o, none⟩ : Addr).add m = ⟨b, o + m, none⟩ := by unfold Addr.add; split <;> simp_all
/-- v[l:h], whatever the form of its address -/
theorem Row.sliced {A : Nat → Prop} {w : World} {a : Option Addr} {n c l h : Nat} {vs : List Value} (hr : Row 1 A w (.slice a n c) n vs) (hl : l ≤ h) (hh : h ≤ n) :
    ∃ a' c', Go.sliced a l h c 1 = .slice a' (h - l) c' ∧ Row 1 A w (.slice a' (h - l) c') (h - l) ((vs.take h).drop l) := by
  have hv : ∀ h' : h - l = 0, ∀ a' c', (a' = none → c' = 0) → Row 1 A w (.slice a' (h - l) c') (h - l) ((vs.take h).drop l) := by
    intro h' a' c' hn
    have hvl : vs.length = n := by have := hr.1; omega
    rw [h', List.drop_of_length_le (by rw [List.length_take]; omega)]
    exact Row.void hn
  have hc : n ≤ c := by obtain ⟨_, _, _, hv, hc, _⟩ := hr; cases hv; exact hc
  have ha : a = none → c = 0 := by obtain ⟨_, _, _, hv, _, ha, _⟩ := hr; cases hv; exact ha
  unfold Go.sliced
  by_cases h1 : c = l
  · rw [if_pos h1]
    exact ⟨a, c - l, rfl, hv (by omega) _ _ (fun _ => by omega)⟩
  · rw [if_neg h1]
    cases a with
    | none => have := ha rfl; omega
    | some p =>
      refine ⟨_, _, rfl, ?_⟩
      by_cases h2 : h - l = 0
      · exact hv h2 _ _ (fun h => by cases h)
      · have h3 := hr.cutTo hh
        have hvl : vs.length = n := by have := hr.1; omega
        have hp : ∃ b o, p = ⟨b, o, none⟩ := by
          obtain ⟨_, _, _, hv', _, _, H⟩ := hr
          cases hv'
          obtain ⟨b, o, he, _⟩ := H 0 (vs[0]'(by omega)) (by simp)
          exact ⟨b, o, Option.some.inj he⟩
        obtain ⟨b, o, rfl⟩ := hp
        have h4 := h3.cutOff hl
        have e : (⟨b, o, none⟩ : Addr).add (l * 1) = ⟨b, o + l, none⟩ := by rw [Nat.mul_one]; exact addr_add b o l
        rw [Option.map_some, e]
        exact h4
section
variable {P : Program} {t : TypeId} {A : Nat → Prop} {w : World} {a : Option Addr} {n c : Nat} {vs : List Value}
theorem row_lo (ht : P.underlying t = some (.slice (P.elem t))) (hz : ∀ w, (sizeOf (P.elem t)).run P w = .ok 1 w) (hr : Row 1 A w (.slice a n c) n vs) (l : Nat) (hl : l ≤ n) :
    ∃ a' c', (∀ w, (Instr.slice t (.slice a n c) (some (.int .i64 (l : Int))) none none).run P w = .ok (.slice a' (n - l) c') w) ∧ Row 1 A w (.slice a' (n - l) c') (n - l) (vs.drop l) := by
  obtain ⟨a', c', h1, h2⟩ := hr.sliced (l := l) (h := n) hl (Nat.le_refl _)
  have hvl : vs.length = n := by have := hr.1; omega
  refine ⟨a', c', fun w => ?_, by rwa [List.take_of_length_le (by omega)] at h2⟩
  rw [run_slice_l w t a n c ht .i64 (l : Int) (by omega) (by omega), hz]
  simp only [Result.andThen, Int.toNat_natCast, h1]
theorem row_hi (ht : P.underlying t = some (.slice (P.elem t))) (hz : ∀ w, (sizeOf (P.elem t)).run P w = .ok 1 w) (hr : Row 1 A w (.slice a n c) n vs) (h : Nat) (hh : h ≤ n) :
    ∃ a' c', (∀ w, (Instr.slice t (.slice a n c) none (some (.int .i64 (h : Int))) none).run P w = .ok (.slice a' h c') w) ∧ Row 1 A w (.slice a' h c') h (vs.take h) := by
  obtain ⟨a', c', h1, h2⟩ := hr.sliced (l := 0) (h := h) (Nat.zero_le _) hh
  have hc : n ≤ c := by obtain ⟨_, _, _, hv, hc, _⟩ := hr; cases hv; exact hc
  refine ⟨a', c', fun w => ?_, by simpa using h2⟩
  rw [run_slice_h w t a n c ht .i64 (h : Int) (by omega) (by omega), hz]
  simp only [Result.andThen, Int.toNat_natCast, h1, Nat.sub_zero]
theorem row_lh (ht : P.underlying t = some (.slice (P.elem t))) (hz : ∀ w, (sizeOf (P.elem t)).run P w = .ok 1 w) (hr : Row 1 A w (.slice a n c) n vs) (l h : Nat) (hl : l ≤ h) (hh : h ≤ n) :
    ∃ a' c', (∀ w, (Instr.slice t (.slice a n c) (some (.int .i64 (l : Int))) (some (.int .i64 (h : Int))) none).run P w = .ok (.slice a' (h - l) c') w) ∧ Row 1 A w (.slice a' (h - l) c') (h - l) ((vs.take h).drop l) := by
  obtain ⟨a', c', h1, h2⟩ := hr.sliced (l := l) (h := h) hl hh
  have hc : n ≤ c := by obtain ⟨_, _, _, hv, hc, _⟩ := hr; cases hv; exact hc
  refine ⟨a', c', fun w => ?_, h2⟩
  rw [run_slice_lh w t a n c ht .i64 .i64 (l : Int) (h : Int) (by omega) (by omega) (by omega), hz]
  simp only [Result.andThen, Int.toNat_natCast, h1]
end
end Go.Proofs.YtbmhkdcmepfmbaaGreat
set_option linter.unusedVariables false
set_option linter.unusedSimpArgs false
namespace Go.Proofs.YtbmhkdcmepfmbaaGreat
open Go.RowKit
open Go.Maps (Keyed)

/-- a value reads as itself -/
def hR (v : Value) : Option (DataW Value × List MemPlace) := some (.held v, [])

/-- Block b is a map of n entries; at key s it holds f s. -/
def MapF (P : Program) (k : TypeId) (w : World) (b : Nat) (f : List UInt8 → Option Value) (n : Nat) : Prop :=
  ∃ D : DataW Value, w.ownsMap P k hR b n D ∧ Maps.size D = n ∧ Maps.Tidy D ∧ ∀ s, Maps.has D (.string s) = (f s).isSome ∧ ∀ z, D.atKey (.string s) (.held z) = .held ((f s).getD z)

theorem key_ne {s t : List UInt8} (h : s ≠ t) : (Lit.string s) ≠ .string t := fun e => h (by cases e; rfl)
theorem key_lit (s : List UInt8) : WideAt.IsKeyLit (.string s) := by simp [WideAt.IsKeyLit]

theorem MapF.made (P : Program) (k : TypeId) (w : World) : MapF P k (w.alloc (.map #[] 0)) w.heap.size (fun _ => none) 0 :=
  ⟨.map [], World.ownsMap_made w P k hR, rfl, Maps.tidy_empty, fun s => ⟨rfl, fun z => rfl⟩⟩
theorem MapF.block {P : Program} {k : TypeId} {w w' : World} {b n : Nat} {f : List UInt8 → Option Value} (h : MapF P k w b f n) (e : w'.heap[b]? = w.heap[b]?) : MapF P k w' b f n := by
  obtain ⟨D, ⟨es, clock, hb, r⟩, r2⟩ := h
  exact ⟨D, ⟨es, clock, e.trans hb, r⟩, r2⟩
theorem MapF.is {P : Program} {k : TypeId} {w : World} {b n : Nat} {f : List UInt8 → Option Value} (h : MapF P k w b f n) : ∃ es clock, w.heap[b]? = some (.map es clock) := by
  obtain ⟨D, ⟨es, clock, hb, r⟩, r2⟩ := h
  exact ⟨es, clock, hb⟩
theorem MapF.lt {P : Program} {k : TypeId} {w : World} {b n : Nat} {f : List UInt8 → Option Value} (h : MapF P k w b f n) : b < w.heap.size := by
  obtain ⟨D, h, _⟩ := h; exact h.lt

/-- 'v, ok := m[s]' -/
theorem MapF.look {P : Program} {k t e : TypeId} {w : World} {b n : Nat} {f : List UInt8 → Option Value} (h : MapF P k w b f n) (hk : P.underlying k = some .string) (ht : P.underlying t = some (.map k e)) {z : Value} (hz : (zeroValue e).run P w = .ok z w)
    (s : List UInt8) (hs : s.length ≤ maxLen) : (Instr.lookup t (.map (some b)) (.string ⟨s.toArray⟩) true).run P w = .ok (.tuple #[(f s).getD z, .bool (f s).isSome]) w := by
  obtain ⟨D, h, hn, hT, hf⟩ := h
  obtain ⟨v, ps, hr, hv⟩ := h.look_ok (Maps.string_keyed hk) ht hz (zd := .held z) (zp := []) rfl (WideMaps.keyOf_string_mk hk (s := ⟨s.toArray⟩) hs)
  rw [hr]
  have h1 := (hf s).1
  have h2 := (hf s).2 z
  simp only [hR, Option.some.injEq, Prod.mk.injEq] at hv
  have h3 := hv.1
  rw [h2] at h3
  cases h3
  rw [h1]

/-- 'm[s] = v' -/
theorem MapF.store {P : Program} {k t e : TypeId} {w : World} {b n : Nat} {f : List UInt8 → Option Value} (h : MapF P k w b f n) (hk : P.underlying k = some .string) (ht : P.underlying t = some (.map k e))
    (s : List UInt8) (hs : s.length ≤ maxLen) (v : Value) (hn : n < maxLen) :
    ∃ w', (Instr.mapUpdate t (.map (some b)) (.string ⟨s.toArray⟩) v).run P w = .ok () w' ∧ MapF P k w' b (fun x => if x = s then some v else f x) (if (f s).isSome then n else n + 1) ∧ w.grownBy w' (some b) := by
  obtain ⟨D, h, hsz, hT, hf⟩ := h
  obtain ⟨w', hr, ho, hg⟩ := h.update (Maps.string_keyed hk) ht hn (WideMaps.keyOf_string_mk hk (s := ⟨s.toArray⟩) hs) (d := .held v) (ps := []) (val := v) rfl
  have hsize : Maps.size (D.put (.string s) (.held v)) = if (f s).isSome then n else n + 1 := by
    rw [Maps.size_put hT, (hf s).1, hsz]
  refine ⟨w', hr, ⟨D.put (.string s) (.held v), ?_, hsize, hT.put (key_lit s) _, fun x => ?_⟩, hg⟩
  · obtain ⟨es, clock, hb, F, hs', hD⟩ := ho
    refine ⟨es, clock, hb, F, ?_, hD⟩
    have : Maps.size (D.put (.string s) (.held v)) = es.size := by
      show Maps.size (D.put (.string (⟨s.toArray⟩ : ByteArray).data.toList) (.held v)) = _
      rw [hD]; exact length_read es
    rw [← hsize, this]; exact Nat.le_refl _
  · by_cases hx : x = s
    · subst hx
      simp only [if_true]
      exact ⟨Maps.has_put_same hT.isMap (key_lit x) _, fun z => by rw [Maps.atKey_put_same hT.isMap (key_lit x)]; rfl⟩
    · simp only [if_neg hx]
      exact ⟨by rw [Maps.has_put_other (key_ne hx)]; exact (hf x).1, fun z => by rw [Maps.atKey_put_other (key_ne hx)]; exact (hf x).2 z⟩

/-- 'delete(m, s)' -/
theorem MapF.drop {P : Program} {k t e : TypeId} {w : World} {b n : Nat} {f : List UInt8 → Option Value} (h : MapF P k w b f n) (hk : P.underlying k = some .string) (ht : P.underlying t = some (.map k e))
    (s : List UInt8) (hs : s.length ≤ maxLen) (ty : TypeId) :
    ∃ w', (Builtin.delete_ #[t, k] ty #[.map (some b), .string ⟨s.toArray⟩]).run P w = .ok (.tuple #[]) w' ∧ MapF P k w' b (fun x => if x = s then none else f x) (if (f s).isSome then n - 1 else n) ∧ w.grownBy w' (some b) := by
  obtain ⟨D, h, hsz, hT, hf⟩ := h
  obtain ⟨w', hr, ho, hg⟩ := h.drop (Maps.string_keyed hk) ht (WideMaps.keyOf_string_mk hk (s := ⟨s.toArray⟩) hs) ty
  have hsize : Maps.size (D.del (.string s)) = if (f s).isSome then n - 1 else n := by
    have := Maps.size_del (k := .string s) hT
    rw [(hf s).1, hsz] at this
    split <;> simp_all <;> omega
  refine ⟨w', hr, ⟨D.del (.string s), ?_, hsize, hT.del _, fun x => ?_⟩, hg.grown⟩
  · obtain ⟨es, clock, hb, F, hs', hD⟩ := ho
    refine ⟨es, clock, hb, F, ?_, hD⟩
    have : Maps.size (D.del (.string s)) = es.size := by
      show Maps.size (D.del (.string (⟨s.toArray⟩ : ByteArray).data.toList)) = _
      rw [hD]; exact length_read es
    rw [← hsize, this]; exact Nat.le_refl _
  · by_cases hx : x = s
    · subst hx
      simp only [if_true]
      exact ⟨Maps.has_del_same, fun z => by rw [Maps.atKey_del_same]; rfl⟩
    · simp only [if_neg hx]
      exact ⟨by rw [Maps.has_del_other (key_ne hx)]; exact (hf x).1, fun z => by rw [Maps.atKey_del_other (key_ne hx)]; exact (hf x).2 z⟩

/-- 'len(m)' -/
theorem MapF.len {P : Program} {k t e : TypeId} {w : World} {b n : Nat} {f : List UInt8 → Option Value} (h : MapF P k w b f n) (ht : P.underlying t = some (.map k e)) (ty : TypeId) : (Builtin.len_ #[t] ty #[.map (some b)]).run P w = .ok (.int .i64 n) w := by
  obtain ⟨D, h, hsz, _⟩ := h
  rw [← hsz]; exact h.len ht ty
end Go.Proofs.YtbmhkdcmepfmbaaGreat
