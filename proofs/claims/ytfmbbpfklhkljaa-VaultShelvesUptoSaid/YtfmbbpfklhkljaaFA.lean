/- Appends onto a row of the call's own, in a region that draws. No program is named here. -/
import Derived.Test.YtfmbbpfklhkljaaFS
set_option linter.unusedVariables false
set_option linter.unusedSimpArgs false
namespace Go.Proofs.Ytfmbbpfklhkljaa
open Go.RowKit
/-- all blocks but g stay, and whoever owns a beginning of F owns it still -/
def Tg (g : Option Nat) (B : Nat) (e : TypeId) (F : List Value) (w w' : World) : Prop := w.grownBy w' g ∧ ∀ u k, w.ownsRow B e 1 u k (F.take k) → w'.ownsRow B e 1 u k (F.take k)
theorem grown_trans {a b c : World} {g : Option Nat} (h : a.grownBy b g) (k : b.grownBy c g) : a.grownBy c g :=
  ⟨k.os.trans h.os, k.tape.trans h.tape, k.output.trans h.output, Nat.le_trans h.size k.size, fun i hi hg => (k.block i (Nat.lt_of_lt_of_le hi h.size) hg).trans (h.block i hi hg)⟩
theorem grown_of {w w' : World} (g : Option Nat) (h : Below w.heap.size w w') : w.grownBy w' g := ⟨h.os, h.tape, h.output, h.size, fun i hi _ => h.block i hi⟩
theorem Tg.trans {g : Option Nat} {B : Nat} {e : TypeId} {F : List Value} {a b c : World} (h : Tg g B e F a b) (k : Tg g B e F b c) : Tg g B e F a c :=
  ⟨grown_trans h.1 k.1, fun u i hu => k.2 u i (h.2 u i hu)⟩
theorem Tg.of {g : Option Nat} {B : Nat} {e : TypeId} {F : List Value} {w w' : World} (h : Below w.heap.size w w') : Tg g B e F w w' :=
  ⟨grown_of g h, fun u i hu => own_keep hu h (Nat.le_refl _)⟩
theorem Tg.below {g : Option Nat} {B D : Nat} {e : TypeId} {F : List Value} {w w' : World} (h : Tg g B e F w w') (hD : D ≤ w.heap.size) (hg : ∀ k, g = some k → D ≤ k) : Below D w w' :=
  ⟨h.1.os, h.1.tape, h.1.output, h.1.size, fun i hi => h.1.block i (by omega) (fun e => by have := hg i e.symm; omega)⟩
theorem take_idem {α : Type} (F : List α) (k : Nat) : F.take k = F.take (min k F.length) := by
  by_cases h : k ≤ F.length
  · rw [Nat.min_eq_left h]
  · rw [Nat.min_eq_right (by omega), List.take_of_length_le (by omega), List.take_length]
/-- the append -/
theorem tg_app {P : Program} {w : World} (t ty : TypeId) {e bytes : Nat} {z : Value} (ht : P.underlying t = some (.slice e)) (hinfo : (P.info? e).map (fun i => (i.zero, i.size, i.bytes)) = some (some z, 1, bytes)) (hzs : z.cells.size = 1)
    {B n : Nat} {v : Value} {F : List Value} (hown : w.ownsRow B e 1 v n (F.take n)) {A : Nat → Prop} {m : Nat} {u : Value} (hsrc : Row 1 A w u m ((F.take (n + m)).drop n)) (h1 : ∀ u ∈ F, u.oneCell' = true)
    (hlen : n + m ≤ maxLen) (hbytes : (n + m) * bytes ≤ 140737488355328) (hB : B ≤ w.heap.size) :
    ∃ v' w', (Builtin.append_ #[t, t] ty #[v, u]).run P w = .ok v' w' ∧ w'.ownsRow B e 1 v' (n + m) (F.take (n + m)) ∧ Tg v.ownBlock B e F w w' ∧ (v'.ownBlock = v.ownBlock ∨ v'.ownBlock = some w.heap.size) := by
  have hn1 : (F.take n).length = n := by have := hown.1; simpa using this
  have hnF : n ≤ F.length := by have := hn1; simp only [List.length_take] at this; omega
  have hm1 : ((F.take (n + m)).drop n).length = m := by have := hsrc.1; simpa using this
  have hFl : n + m ≤ F.length ∨ m = 0 := by
    simp only [List.length_drop, List.length_take] at hm1 hn1; omega
  have happ : F.take n ++ (F.take (n + m)).drop n = F.take (n + m) := by
    conv => rhs; rw [← List.take_append_drop n (F.take (n + m))]
    rw [List.take_take, Nat.min_eq_left (by omega)]
  have h1' : ∀ x ∈ (F.take (n + m)).drop n, x.oneCell' = true := fun x hx => h1 x (List.mem_of_mem_take (List.mem_of_mem_drop hx))
  obtain ⟨i0, hi, hz0, hz1, hz2⟩ := info_parts hinfo
  obtain ⟨hl, ad, c, rfl, hc, ha, H⟩ := hsrc
  cases ad with
  | none =>
    have hc0 := ha rfl
    have hm : m = 0 := by omega
    subst hc0; subst hm
    exact ⟨v, w, run_append_owned_none (P := P) (w := w) B t ty e i0 1 ht hi v n _ hown, by simpa using hown, Tg.of (Below.refl _ _), .inl rfl⟩
  | some p =>
    have hnw : ∀ j u, ((F.take (n + m)).drop n)[j]? = some u → w.cell? (p.add j) = some u := by
      intro j u hj
      obtain ⟨b, o, hp, _, hu⟩ := H j u hj
      simp only [Option.some.injEq] at hp
      subst hp
      have : (⟨b, o, none⟩ : Addr).add j = ⟨b, o + j, none⟩ := by unfold Addr.add; split <;> simp_all
      rw [this, hu]
    by_cases hroom : ∃ g cap cur, v = .slice (some ⟨g, 0, none⟩) n cap ∧ B ≤ g ∧ w.heap[g]? = some (.cells cur e (0, 0)) ∧ n + m ≤ cap ∧ cap ≤ maxLen ∧ cur.size = cap * 1 ∧ cur.toList.take (n * 1) = F.take n
    · obtain ⟨g, cap, cur, rfl, hbg, hg, hnc, hcm, hcs, htake⟩ := hroom
      have hfit : n * i0.size + ((F.take (n + m)).drop n).length ≤ cur.size := by rw [hm1, hz1]; omega
      have hr := run_append_room (P := P) w t ty e i0 ht hi g n cap cur hg p m c _ (by rw [hm1, hz1]; omega) hnw h1' hnc hfit
      rw [hz1, Nat.mul_one] at hr
      have htake' : cur.toList.take n = F.take n := by simpa using htake
      refine ⟨_, _, hr, ⟨by simp only [List.length_take]; omega, .inr ⟨g, cap, _, rfl, hbg, setRow_heap w g cur _ e _ hg, hnc, hcm, ?_, ?_⟩⟩, ⟨⟨rfl, rfl, rfl, by simp, fun k _ hk => setRow_other w g k _ (fun e => hk (by simp [Value.ownBlock, e]))⟩, fun x k hx => ?_⟩, .inl rfl⟩
      · simp only [List.size_toArray, List.length_append, List.length_take, List.length_drop, Array.length_toList] at hm1 ⊢
        omega
      · have h3 : n + ((F.take (n + m)).drop n).length = n + m := by rw [hm1]
        simp only [Nat.mul_one]
        rw [htake', happ]
        rw [List.take_append_of_le_length (by simp only [List.length_take]; omega)]
        rw [List.take_take, Nat.min_self]
      · obtain ⟨hx0, hx | ⟨g', cap', cur', hv', hb', hg', hk', hcm', hs', ht'⟩⟩ := hx
        · exact ⟨hx0, .inl hx⟩
        · by_cases hgg : g' = g
          · subst hgg
            rw [hg] at hg'
            obtain ⟨rfl⟩ : cur = cur' := by injection hg' with h; injection h
            refine ⟨hx0, .inr ⟨g', cap', _, hv', hb', setRow_heap w g' cur _ e _ hg, hk', hcm', ?_, ?_⟩⟩
            · simp only [List.size_toArray, List.length_append, List.length_take, List.length_drop, Array.length_toList] at hm1 ⊢
              omega
            · simp only [Nat.mul_one] at ht' ⊢
              rw [htake', happ, hm1]
              have hkl : k ≤ F.length := by simp only [List.length_take] at hx0; omega
              by_cases hkn : k ≤ n + m
              · rw [List.take_append_of_le_length (by simp only [List.length_take]; omega), List.take_take, Nat.min_eq_left hkn]
              · rw [List.take_append, List.take_take, Nat.min_eq_right (by omega)]
                have e1 : (F.take (n + m)).length = n + m := by simp only [List.length_take]; omega
                rw [e1, List.take_drop, show n + m + (k - (n + m)) = k by omega, ht']
                conv => rhs; rw [← List.take_append_drop (n + m) (F.take k)]
                rw [List.take_take, Nat.min_eq_left (by omega)]
          · exact ⟨hx0, .inr ⟨g', cap', cur', hv', hb', by rw [setRow_other w g g' _ hgg]; exact hg', hk', hcm', hs', ht'⟩⟩
    · by_cases hm : m = 0
      · subst hm
        have hnil : (F.take (n + 0)).drop n = [] := List.eq_nil_of_length_eq_zero hm1
        rw [hnil] at hnw h1' hl
        rcases hown.2 with ⟨rfl, rfl⟩ | ⟨g, cap, cur, rfl, hbg, hg, hnc, hcm, hcs, htake⟩
        · have hr := run_append_own_at (P := P) w B t ty e i0 z 1 bytes ht hi hz0 hz1 hz2 hzs (by decide) _ 0 _ hown p 0 c [] hl hnw h1' hlen hbytes hB
          obtain ⟨v', w', k1, k2, k3, k4, k5⟩ := hr
          have hv' := k4.2 ⟨rfl, rfl⟩
          subst hv'
          refine ⟨_, _, k1, by simpa using k2, ⟨k3, fun x k hx => own_keep hx ⟨k3.os, k3.tape, k3.output, k3.size, fun i hi => k3.block i hi (by simp [Value.ownBlock])⟩ (Nat.le_refl _)⟩, .inl rfl⟩
        · exact absurd ⟨g, cap, cur, rfl, hbg, hg, by omega, hcm, hcs, htake⟩ hroom
      · rcases hown.2 with ⟨rfl, rfl⟩ | ⟨g, cap, cur, rfl, hbg, hg, hnc, hcm, hcs, htake⟩
        · have hr := run_append_own_at (P := P) w B t ty e i0 z 1 bytes ht hi hz0 hz1 hz2 hzs (by decide) _ 0 _ hown p m c _ hl hnw h1' hlen hbytes hB
          obtain ⟨v', w', k1, k2, k3, k4, k5⟩ := hr
          rw [happ] at k2
          exact ⟨_, _, k1, k2, ⟨k3, fun x k hx => own_keep hx ⟨k3.os, k3.tape, k3.output, k3.size, fun i hi => k3.block i hi (by simp [Value.ownBlock])⟩ (Nat.le_refl _)⟩, k5⟩
        · have hnroom : cap < n + m := by
            rcases Nat.lt_or_ge cap (n + m) with h | h
            · exact h
            · exact absurd ⟨g, cap, cur, rfl, hbg, hg, h, hcm, hcs, htake⟩ hroom
          have holds : ∀ j u, (F.take n)[j]? = some u → w.cell? ((⟨g, 0, none⟩ : Addr).add j) = some u := hown.cells (g := g) rfl
          have hmx : maxLen ≤ 9223372036854775807 := by decide
          have hr := run_append_grow (P := P) w t ty e i0 z ht hi hz0 ⟨g, 0, none⟩ n cap (F.take n) (by rw [hz1]; exact hown.1) holds p m c _ (by rw [hm1, hz1]; omega) hnw hnroom (by omega) (by rw [hz2]; exact growslice_fits (by omega) hbytes)
          have hge := grownCap_ge w (n + m) cap e
          have hcm2 : grownCap w (n + m) cap e ≤ maxLen := grownCap_le_maxLen w (n + m) cap e hlen
          refine ⟨_, _, hr, ⟨by simp only [List.length_take]; omega, .inr ⟨w.heap.size, _, _, rfl, hB, heap_alloc_new w.drew _, hge, hcm2, ?_, ?_⟩⟩, Tg.of ⟨rfl, rfl, rfl, by simp, fun k hk => Below.heap_alloc w.drew _ k hk⟩, .inr rfl⟩
          · simp only [Array.size_append, List.size_toArray, size_zeroCells, hzs, hn1, hm1]
            omega
          · simp only [Array.toList_append, Nat.mul_one]
            rw [happ]
            have e1 : (F.take (n + m)).length = n + m := by simp only [List.length_take]; omega
            rw [List.take_append_of_le_length (by omega), List.take_take, Nat.min_self]

/-- a world behind V on that road -/
structure TgS (g : Option Nat) (B : Nat) (e : TypeId) (F : List Value) (V : World) where
  nx : World
  ok : Tg g B e F V nx
section
variable {g : Option Nat} {B : Nat} {e : TypeId} {F : List Value}
instance (V : World) : Inhabited (TgS g B e F V) := ⟨⟨V, Tg.of (Below.refl _ _)⟩⟩
theorem TgS.size {V : World} (p : TgS g B e F V) : V.heap.size ≤ p.nx.heap.size := p.ok.1.size
theorem TgS.cell {V : World} (p : TgS g B e F V) {b o : Nat} {v : Value} (h : V.cell? ⟨b, o, none⟩ = some v) (hb : some b ≠ g) : p.nx.cell? ⟨b, o, none⟩ = some v := by
  rw [World.cell?_of_block (w := V) (a := ⟨b, o, none⟩) (p.ok.1.block b (World.block_lt_of_cell? V ⟨b, o, none⟩ h) hb)]; exact h
theorem tg_first (V : World) : ∃ p : TgS g B e F V, V.drew = p.nx := ⟨⟨V.drew, Tg.of ⟨rfl, rfl, rfl, Nat.le_refl _, fun _ _ => rfl⟩⟩, rfl⟩
theorem Bs.apart {A : Nat → Prop} {V w' : World} {v : Value} {l : List UInt8} (h : Bs A V v l) (hA : ∀ b, A b → b < V.heap.size ∧ some b ≠ g) (ht : Tg g B e F V w') : Bs A w' v l :=
  h.keepS fun b hb => ht.1.block b (hA b hb).1 (hA b hb).2
end
def Off (g : Option Nat) (w : World) (b : Nat) : Prop := b < w.heap.size ∧ some b ≠ g
def GL (g : Option Nat) (B : Nat) (e : TypeId) (F : List Value) := {V : Lw // ∀ v w w', V.led v w → Tg g B e F w w' → V.led v w'}
section
variable (g : Option Nat) (B : Nat) (e : TypeId) (F : List Value)
def GL.bytes (l : List UInt8) : GL g B e F := ⟨⟨fun v => ∃ a c, v = .slice a l.length c, fun v w => Bs (Off g w) w v l⟩, fun _ w w' h ht =>
  (h.apart (fun _ hb => hb) ht).monoS fun b hb => ⟨Nat.lt_of_lt_of_le hb.1 ht.1.size, hb.2⟩⟩
def GL.row (k : Nat) : GL g B e F := ⟨⟨fun v => ∃ a c, v = .slice a k c, fun v w => w.ownsRow B e 1 v k (F.take k)⟩, fun v _ _ h ht => ht.2 v k h⟩
def gul : List (Nat × GL g B e F) → Nat → Option Lw
  | [], _ => none
  | (k, V) :: l, s => if s = k then some V.1 else gul l s
theorem gul_up : ∀ (l : List (Nat × GL g B e F)) {s : Nat} {V : Lw}, gul g B e F l s = some V → ∀ v w w', V.led v w → Tg g B e F w w' → V.led v w'
  | [], s, V, h => by cases h
  | (k, U) :: l, s, V, h => by
    unfold gul at h
    split at h
    · cases h; exact U.2
    · exact gul_up l h
theorem gul_ck {V : World} (l : List (Nat × GL g B e F)) : Ck (Tg g B e F) (fun w' => ∃ p : TgS g B e F V, w' = p.nx) (gul g B e F l) :=
  ⟨fun h k => h.trans k, fun ⟨p, hp⟩ h => ⟨⟨_, p.ok.trans (by subst hp; exact h)⟩, rfl⟩, fun {s V v w w'} h1 h2 h3 => gul_up g B e F l h1 v w w' h2 h3⟩
end
theorem own_slice {B n : Nat} {e : TypeId} {w : World} {v : Value} {xs : List Value} (h : w.ownsRow B e 1 v n xs) : ∃ a c, v = .slice a n c := by
  rcases h.2 with ⟨rfl, rfl⟩ | ⟨g, cap, cur, rfl, _⟩
  · exact ⟨_, _, rfl⟩
  · exact ⟨_, _, rfl⟩
theorem Ob.off {e : TypeId} {w w' : World} {v : Value} {l : List UInt8} {g : Option Nat} (h : Ob e w.heap.size w' v l) (hl : l.length ≤ lim) (hg : ∀ k, g = some k → k < w.heap.size) : Bs (Off g w') w' v l := by
  have h0 := h
  obtain ⟨a, c, rfl, hc, ha, H⟩ := (h.bs hl).at
  refine ⟨⟨by simp, a, c, rfl, hc, ha, fun j u hj => ?_⟩, hl⟩
  have hj' : j < l.length := by have := (List.getElem?_eq_some_iff.1 hj).1; simpa using this
  obtain ⟨b, o, he, hb, hu⟩ := H j hj'
  refine ⟨b, o, he, ⟨hb, ?_⟩, by rw [hu, ← hj, bv_get l j hj']⟩
  rintro rfl
  have h1 := hg b rfl
  have h2 := (h0.lt b (by rw [he]; rfl)).1
  omega
end Go.Proofs.Ytfmbbpfklhkljaa
