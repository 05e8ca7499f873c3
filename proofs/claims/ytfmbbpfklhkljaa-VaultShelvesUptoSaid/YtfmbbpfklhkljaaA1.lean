/- Rows of byte slices that a call makes; groyneref01.Copies, Equals. -/
import Derived.Test.YtfmbbpfklhkljaaW3
import Derived.Test.YtfmbbpfklhkljaaUP
import Derived.Test.YtfmbbpfklhkljaaRS
set_option linter.unusedVariables false
set_option linter.unusedSimpArgs false
namespace Go.Proofs.Ytfmbbpfklhkljaa
open Go.RowKit
/-- a block that lay before B, or a row of bytes -/
def Td (B : Nat) (w : World) (b : Nat) : Prop := b < B ∨ ∃ cur fr, w.heap[b]? = some (.cells cur 5 fr)
theorem Td.up {B : Nat} {w w' : World} {b : Nat} (h : Td B w b) (hb : Below w.heap.size w w') : Td B w' b := by
  rcases h with h | ⟨cur, fr, h⟩
  · exact .inl h
  · exact .inr ⟨cur, fr, by rw [hb.block b (Array.getElem?_eq_some_iff.1 h).1]; exact h⟩
theorem Bs.td {B B' : Nat} {w : World} {v : Value} {l : List UInt8} (h : Ob 5 B' w v l) (hl : l.length ≤ lim) : Bs (Td B w) w v l := by
  have h0 := h
  obtain ⟨a, c, rfl, hc, ha, H⟩ := (h.bs hl).at
  refine ⟨⟨by simp, a, c, rfl, hc, ha, fun j u hj => ?_⟩, hl⟩
  have hj' : j < l.length := by have := (List.getElem?_eq_some_iff.1 hj).1; simpa using this
  obtain ⟨b, o, he, _, hu⟩ := H j hj'
  refine ⟨b, o, he, ?_, by rw [hu, ← hj, bv_get l j hj']⟩
  obtain ⟨_, h1 | ⟨g, cap, cur, hv, _, hg, _⟩⟩ := h0
  · have := h1.1; simp only [Value.slice.injEq] at this; rw [this.1] at he; cases he
  · simp only [Value.slice.injEq] at hv
    rw [hv.1] at he; cases he
    exact .inr ⟨cur, _, hg⟩
/-- each element reads on behind an append into a row of slices -/
theorem Each.grown {B B0 : Nat} {w w' : World} {vs : List Value} {l : List (List UInt8)} {v : Value} {n : Nat} {xs : List Value} (h : Each (Td B w) w vs l) (hown : w.ownsRow B 32 1 v n xs) (hg : w.grownBy w' v.ownBlock) (hs : ∀ b, Td B w b → b < w.heap.size) : Each (Td B w') w' vs l := by
  have hblk : ∀ b, Td B w b → w'.heap[b]? = w.heap[b]? := by
    intro b hb
    refine hg.block b (hs b hb) fun e => ?_
    obtain ⟨_, h1 | ⟨g, cap, cur, hv, hB, hgg, _⟩⟩ := hown
    · rw [h1.1] at e; cases e
    · rw [hv] at e
      simp only [Value.ownBlock, Option.some.injEq] at e
      subst e
      rcases hb with hb | ⟨cur', fr, hb⟩
      · omega
      · rw [hgg] at hb; cases hb
  have hsame : Same (Td B w) w w' := fun b hb => hblk b hb
  refine (h.keepS hsame).monoS fun b hb => ?_
  rcases hb with hb' | ⟨cur, fr, hb'⟩
  · exact .inl hb'
  · exact .inr ⟨cur, fr, by rw [hblk b (.inr ⟨cur, fr, hb'⟩)]; exact hb'⟩
theorem Each.upT {B : Nat} {w w' : World} {vs : List Value} {l : List (List UInt8)} (h : Each (Td B w) w vs l) (hb : Below w.heap.size w w') : Each (Td B w') w' vs l :=
  (h.up hb).monoS fun b hb' => hb'.up hb
/-- v is a row of byte slices of the call's own; its elements lie below D, or are rows of bytes -/
def Obb (D B : Nat) (w : World) (v : Value) (l : List (List UInt8)) : Prop := ∃ vs, w.ownsRow B 32 1 v l.length vs ∧ Each (Td D w) w vs l
theorem Obb.up {D B : Nat} {w w' : World} {v : Value} {l : List (List UInt8)} (h : Obb D B w v l) (hb : Below w.heap.size w w') : Obb D B w' v l := by
  obtain ⟨vs, h1, h2⟩ := h; exact ⟨vs, own_keep h1 hb (Nat.le_refl _), h2.upT hb⟩
theorem Obb.alloc {D B : Nat} {w : World} {v : Value} {l : List (List UInt8)} (h : Obb D B w v l) (o : Obj) : Obb D B (w.alloc o) v l := h.up (up_alloc w o)
theorem Obb.bss {D B : Nat} {w : World} {v : Value} {l : List (List UInt8)} (h : Obb D B w v l) (hB : D ≤ w.heap.size) (hl : l.length * 24 ≤ lim) : Bss (Lt w.heap.size) w v l := by
  obtain ⟨vs, h1, h2⟩ := h
  refine ⟨vs, Row.of_own h1, h2.monoS fun b hb => ?_, hl⟩
  rcases hb with hb | ⟨cur, fr, hb⟩
  · exact Nat.lt_of_lt_of_le hb hB
  · exact (Array.getElem?_eq_some_iff.1 hb).1
theorem Obb.slice {D B : Nat} {w : World} {v : Value} {l : List (List UInt8)} (h : Obb D B w v l) : ∃ ao n c, v = .slice ao n c := by
  obtain ⟨vs, h1, _⟩ := h
  rcases h1.2 with ⟨rfl, _⟩ | ⟨g, cap, cur, rfl, _⟩
  · exact ⟨_, _, _, rfl⟩
  · exact ⟨_, _, _, rfl⟩
/-- a block of a plain row: bytes, numbers, slices of bytes -/
def Ty (w : World) (b : Nat) : Prop := ∃ cur e fr, w.heap[b]? = some (.cells cur e fr) ∧ (e = 3 ∨ e = 5 ∨ e = 32)
theorem Ty.up {w w' : World} {b : Nat} (h : Ty w b) (hb : Below w.heap.size w w') : Ty w' b := by
  obtain ⟨cur, e, fr, h, he⟩ := h
  exact ⟨cur, e, fr, by rw [hb.block b (Array.getElem?_eq_some_iff.1 h).1]; exact h, he⟩
theorem row_ty {B size n : Nat} {e : TypeId} {w : World} {v : Value} {vs : List Value} (h : w.ownsRow B e size v n vs) (he : e = 3 ∨ e = 5 ∨ e = 32) : Row size (Ty w) w v n vs := by
  have h0 := h
  obtain ⟨hl, a, c, rfl, hc, ha, H⟩ := Row.of_own h
  refine ⟨hl, a, c, rfl, hc, ha, fun j u hj => ?_⟩
  obtain ⟨b, o, hp, _, hu⟩ := H j u hj
  refine ⟨b, o, hp, ?_, hu⟩
  rcases h0.2 with ⟨h1, _⟩ | ⟨g, cap, cur, h1, _, hg, _⟩
  · cases h1; cases hp
  · cases h1; cases hp; exact ⟨cur, e, _, hg, he⟩
theorem Obb.ty {B : Nat} {w : World} {v : Value} {l : List (List UInt8)} (h : Obb 0 B w v l) (hl : l.length * 24 ≤ lim) : Bss (Ty w) w v l := by
  obtain ⟨vs, h1, h2⟩ := h
  refine ⟨vs, row_ty h1 (.inr (.inr rfl)), h2.monoS fun b hb => ?_, hl⟩
  rcases hb with hb | ⟨cur, fr, hb⟩
  · exact absurd hb (Nat.not_lt_zero _)
  · exact ⟨cur, 5, fr, hb, .inr (.inl rfl)⟩
theorem Bss.upTy {w w' : World} {v : Value} {l : List (List UInt8)} (h : Bss (Ty w) w v l) (hb : Below w.heap.size w w') : Bss (Ty w') w' v l := (h.up hb).monoS fun _ h => h.up hb
theorem Bs.upTy {w w' : World} {v : Value} {l : List UInt8} (h : Bs (Ty w) w v l) (hb : Below w.heap.size w w') : Bs (Ty w') w' v l := (h.up hb).monoS fun _ h => h.up hb
theorem Is.upTy {w w' : World} {v : Value} {l : List Int} (h : Is (Ty w) w v l) (hb : Below w.heap.size w w') : Is (Ty w') w' v l := (h.up hb).monoS fun _ h => h.up hb
/-- a store into another block than a plain row's -/
theorem ty_set {w : World} {a : Addr} {u : Value} {cur : Array Value} {e : TypeId} {fr : Nat × Nat} (h : w.heap[a.block]? = some (.cells cur e fr)) (he : ¬ (e = 3 ∨ e = 5 ∨ e = 32)) : Same (Ty w) w (w.setCell a u) := by
  intro b ⟨cur', e', fr', hb, he'⟩
  refine Below.heap_setCell w a u b ?_
  rintro rfl
  rw [h] at hb
  cases hb
  exact he he'
theorem obb_nil {D B : Nat} {w : World} : Obb D B w (.slice none 0 0) [] := ⟨[], World.ownsRow_nil w B 32 1, Each.nil _ _⟩
theorem Try.info32 : (Try.prog.info? 32).map (fun i => (i.zero, i.size, i.bytes)) = some (some (.slice none 0 0), 1, 24) := by kernel_rfl
theorem each_append {A : Nat → Prop} {w : World} {vs us : List Value} {l m : List (List UInt8)} (h : Each A w vs l) (k : Each A w us m) : Each A w (vs ++ us) (l ++ m) := by
  refine ⟨by simp [h.1, k.1], fun i a b => ?_⟩
  by_cases hi : i < l.length
  · rw [List.getElem_append_left (by have := h.1; omega), List.getElem_append_left hi]; exact h.2 i hi (by have := h.1; omega)
  · have e := h.1
    rw [List.getElem_append_right (by omega), List.getElem_append_right (by omega)]
    have := k.2 (i - l.length) (by simp at a; omega) (by simp at b; omega)
    simp only [e]; exact this
set_option maxRecDepth 100000 in
/-- append of byte slices onto a row of the call's own -/
theorem app28 {w W : World} {ops : Array Oper} {rest : List Oper} {o : Oper} {a : Act} {Q : Exit → Act → World → Prop} {v : Value} {l : List (List UInt8)} {A : Nat → Prop} {u : Value} {us : List Value} {m : List (List UInt8)} {D : Nat} (hD : D ≤ W.heap.size) (hgd : o.guard = none) (s x : Operand)
    (ho : o.op = .call { callee := .builtin .append, args := #[s, x], argTypes := #[28, 28] }) (hs : a.eval s = v) (hW : Below W.heap.size W w) (hown : Obb D W.heap.size w v l)
    (hx : a.eval x = u) (hrow : Row 1 A w u m.length us) (hsrc : Each (Td D w) w us m) (hlen : (l.length + m.length) * 24 ≤ lim)
    (h : ∀ v' w', Obb D W.heap.size w' v' (l ++ m) → Below W.heap.size W w' → wpList Try.prog ops Q rest (a.put o.dst v') w') :
    wpList Try.prog ops Q (o :: rest) a w := by
  unfold lim at hlen
  obtain ⟨vs, h1, h2⟩ := hown
  have hlt : ∀ b, Td D w b → b < w.heap.size := fun b hb => by
    rcases hb with hb | ⟨cur, fr, hb⟩
    · exact Nat.lt_of_lt_of_le hb (Nat.le_trans hD hW.size)
    · exact (Array.getElem?_eq_some_iff.1 hb).1
  refine wpl_app hgd s x 28 ho Try.underlying28 Try.info32 rfl (by decide) hs h1 hx hrow hsrc.one (by unfold maxLen; omega) (by omega) hW.size fun v' w' k1 k2 k3 k4 => h v' w' ?_ ?_
  · refine ⟨vs ++ us, by rw [List.length_append]; exact k1, ?_⟩
    exact (each_append h2 hsrc).grown (B0 := 0) (own_mono h1 hD) k2 hlt
  · exact below_app hW h1 k2 (Nat.le_refl _) hW.size
def RetObb (D : Nat) (w : World) (l : List (List UInt8)) (e : Ending) (w' : World) : Prop := ∃ v', e = .returned v' ∧ Obb D w.heap.size w' v' l ∧ Below w.heap.size w w'
set_option maxHeartbeats 1000000 in
/-- groyneref01.Copies -/
theorem copies_any {A : Nat → Prop} (v : Value) (l : List (List UInt8)) (w : World) (h : Bss A w v l) (D : Nat) (hD : D ≤ w.heap.size) : Calls Try.prog 63 #[v] w (RetObb D w l) := by
  obtain ⟨a, c, rfl, hc, _, H⟩ := h.at
  have H : Hid _ := H
  have hlim : l.length * 24 ≤ 140737488351232 := by obtain ⟨_, _, _, h3⟩ := h; exact h3
  clear h
  go_enter Try.func63, Try.ntmps63
  go_wp2
  go_loopw [3, 4] (fun o i wr => ∃ k : Nat, k ≤ l.length ∧ i = .int .i64 k ∧ Hid (Below w.heap.size w wr) ∧ Hid (Obb D w.heap.size wr o (l.take k))) (fun _ i _ => l.length - (intOf i).toNat)
  case atStart => exact ⟨0, by omega, rfl, Hid.mk' (Below.refl _ _), Hid.mk' obb_nil⟩
  case round =>
    obtain ⟨k, hk, rfl, HB, HO⟩ := hrel
    by_cases hlt : k < l.length
    · have hlt' : (k : Int) < (l.length : Int) := by omega
      have hl' : (l.length : Int) ≤ 140737488351232 := by omega
      have hu1 : ∃ b o x, a = some ⟨b, o, none⟩ ∧ wr.cell? ⟨b, o + k, none⟩ = some x ∧ Bs A wr x l[k] := by
        obtain ⟨b, o, u, hp, _, hu, hx⟩ := H.out k hlt
        exact ⟨b, o, u, hp, cell_later HB.out hu, hx.up HB.out⟩
      obtain ⟨b, o, x, rfl, hu, hx⟩ := hu1
      have HX := Hid.mk' hx
      have HT := Hid.mk' (List.take_succ_eq_append_getElem hlt)
      clear hx
      generalize l[k] = y at *
      go_wp2_with fail
      refine (copy_any x y _ HX.out).mono ?_
      rintro e w2 ⟨v2, rfl, h2, o2⟩
      have HB2 := Hid.mk' (bt HB.out h2)
      have HO2 := Hid.mk' (HO.out.up h2)
      have HY := Hid.mk' (Bs.td (B := D) o2 HX.out.2)
      clear h2 o2
      obtain ⟨a2, c2, rfl, _⟩ := HY.out.at
      go_wp2_with (at_builtin; go_must (refine app28 (W := w) (v := u3) (l := l.take k) (us := [.slice a2 y.length c2]) (m := [y]) hD rfl (.tmp 11) (.tmp 17) rfl rfl (HB2.out.alloc HB2.out.size _) (HO2.out.alloc _) rfl row_one ((Each.nil _ _).snoc ((HY.out.up (up_alloc _ _)).monoS fun b hb => hb.up (up_alloc _ _))) (by simp; unfold lim; omega) ?_); intro v3 w3 ho hb; have HO3 := Hid.mk' ho; have HB3 := Hid.mk' hb; clear ho hb)
      go_roundw
      case rel => exact ⟨k + 1, by omega, by go_num, HB3, by rw [HT.out]; exact HO3⟩
      case measure => simp [intOf]; omega
    · obtain rfl : k = l.length := by omega
      rw [List.take_length] at HO
      go_wp2_with fail
      go_ret
      exact ⟨_, rfl, HO.out, HB.out⟩
end Go.Proofs.Ytfmbbpfklhkljaa
