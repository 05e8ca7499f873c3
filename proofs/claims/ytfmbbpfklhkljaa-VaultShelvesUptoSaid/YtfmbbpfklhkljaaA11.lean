/- leaf.Encode. -/
import Derived.Test.YtfmbbpfklhkljaaPG
import Derived.Test.YtfmbbpfklhkljaaFA
import Derived.Laws.IdiomCopy
set_option linter.unusedVariables false
set_option linter.unusedSimpArgs false
namespace Go.Proofs.Ytfmbbpfklhkljaa
open Go.RowKit
/-- append of bytes onto bytes of the call's own; all that lay in W stays -/
theorem app32b {w W : World} {ops : Array Oper} {rest : List Oper} {o : Oper} {a : Act} {Q : Exit → Act → World → Prop} (hgd : o.guard = none) (s x : Operand)
    (ho : o.op = .call { callee := .builtin .append, args := #[s, x], argTypes := #[32, 32] }) {v : Value} {l : List UInt8} (hs : a.eval s = v) (hW : Below W.heap.size W w) (hown : Ob 5 W.heap.size w v l)
    {A : Nat → Prop} {u : Value} {m : List UInt8} (hx : a.eval x = u) (hsrc : Bs A w u m) (hlen : l.length + m.length ≤ lim)
    (h : ∀ v' w', Ob 5 W.heap.size w' v' (l ++ m) → Below W.heap.size W w' → wpList Try.prog ops Q rest (a.put o.dst v') w') :
    wpList Try.prog ops Q (o :: rest) a w :=
  app32 hgd s x ho hs hown hx hsrc hlen hW.size fun v' w' h1 h2 _ _ => h v' w' h1 (below_app hW hown h2 (Nat.le_refl _) hW.size)
theorem bs_lit {w : World} (x : UInt8) (y : Int) (hy : y = (x.toNat : Int)) : Bs (Lt (w.heap.size + 1)) (w.alloc (.cells #[.int .u8 y] 5)) (.slice (some ⟨w.heap.size, 0, none⟩) 1 1) [x] := by
  subst hy; exact ⟨row_one, by simp [lim]⟩
theorem ob_lit1 {B : Nat} {w : World} (hB : B ≤ w.heap.size) (x : UInt8) (y : Int) (hy : y = (x.toNat : Int)) : Ob 5 B (w.alloc (.cells #[.int .u8 y] 5)) (.slice (some ⟨w.heap.size, 0, none⟩) 1 1) [x] := by
  subst hy
  exact ⟨by simp, .inr ⟨w.heap.size, 1, _, rfl, hB, heap_alloc_new w _, Nat.le_refl _, by decide, rfl, by simp [bv]⟩⟩
def encE (n : Nd) : Int := if check n = 0 then (if 512 < size n then 8 else 0) else check n
def encP (n : Nd) : List UInt8 := if encE n = 0 then page n else []
theorem enc_bad {n : Nd} (h : check n ≠ 0) : encE n = check n ∧ encP n = [] := by
  have : encE n = check n := by unfold encE; rw [if_neg h]
  exact ⟨this, by unfold encP; rw [this, if_neg h]⟩
theorem enc_big {n : Nd} (h : check n = 0) (hs : 512 < size n) : encE n = 8 ∧ encP n = [] := by
  have : encE n = 8 := by unfold encE; rw [if_pos h, if_pos hs]
  exact ⟨this, by unfold encP; rw [this, if_neg (by decide)]⟩
theorem enc_ok {n : Nd} (h : check n = 0) (hs : ¬ 512 < size n) : encE n = 0 ∧ encP n = page n := by
  have : encE n = 0 := by unfold encE; rw [if_pos h, if_neg hs]
  exact ⟨this, by unfold encP; rw [this, if_pos rfl]⟩
/-- what Encode says -/
def EncPost (w : World) (n : Nd) (e : Ending) (w' : World) : Prop := ∃ v', e = .returned (.tuple #[v', .int .i64 (encE n)]) ∧ Ob 5 w.heap.size w' v' (encP n) ∧ Below w.heap.size w w'
theorem keys_le {l : List (List UInt8)} : l.length ≤ tot 1 l := by
  induction l with
  | nil => simp [tot]
  | cons x l ih => simp only [tot, List.map_cons, List.sum_cons, List.length_cons] at *; omega
/-- copy, at the walk's operation -/
theorem wpl_copy {P : Program} {w : World} {ops : Array Oper} {rest : List Oper} {o : Oper} {a : Act} {Q : Exit → Act → World → Prop} (hgd : o.guard = none) (d s : Operand) (t t' : TypeId)
    (ho : o.op = .call { callee := .builtin .copy, args := #[d, s], argTypes := #[t, t'] }) {v u : Value} (hd : a.eval d = v) (hs : a.eval s = u) {v' : Value} {w' : World}
    (hr : (Builtin.copy_ #[t, t'] o.type #[v, u]).run P w = .ok v' w') (h : wpList P ops Q rest (a.put o.dst v') w') : wpList P ops Q (o :: rest) a w := by
  refine wpList_plain hgd fun K hK => ?_
  unfold Oper.wp execOp
  simp only [ho, resolve, invoke, builtin, Sem.run_bind, Sem.run_pure, Result.andThen_ok, List.map_toArray, List.map_cons, List.map_nil, hd, hs, hr]
  exact hK _ _ h
theorem Ob.over {e : TypeId} {B g n cap : Nat} : ∀ (m : List UInt8) (o : Nat) {w : World} {l : List UInt8}, Ob e B w (.slice (some ⟨g, 0, none⟩) n cap) l → o + m.length ≤ l.length →
    Ob e B (w.setCells g o (bv m)) (.slice (some ⟨g, 0, none⟩) n cap) (l.take o ++ m ++ l.drop (o + m.length))
  | [], o, w, l, h, _ => by simpa [bv, World.setCells] using h
  | x :: r, o, w, l, h, hl => by
    have hl : o + (r.length + 1) ≤ l.length := hl
    have h2 := (h.set o x).over r (o + 1) (by simp; omega)
    have e1 : (l.set o x).take (o + 1) = l.take o ++ [x] := by
      rw [List.take_succ_eq_append_getElem (by simp; omega), List.take_set_of_le (Nat.le_refl _)]; simp
    have e2 : (l.set o x).drop (o + 1 + r.length) = l.drop (o + (x :: r).length) := by
      rw [List.drop_set_of_lt (by omega)]; congr 1; simp; omega
    rw [e1, e2] at h2
    simpa [bv, World.setCells] using h2
theorem below_over {B g : Nat} {W : World} (hg : B ≤ g) : ∀ (vs : List Value) (o : Nat) {w : World}, Below B W w → Below B W (w.setCells g o vs)
  | [], _, _, h => h
  | v :: r, o, _, h => below_over hg r (o + 1) (h.setCell (p := ⟨g, o, none⟩) hg v)
theorem mk512 (w : World) : (Instr.makeSlice 32 (.int .i64 512) (.int .i64 512)).run Try.prog w = .ok (.slice (some ⟨w.heap.size, 0, none⟩) 512 512) (w.alloc (.cells (zeros 512) 5)) :=
  run_mk 32 Try.underlying32 Try.info5 512 (by decide) w
theorem Try.size5 : (Try.prog.info? 5).map (·.size) = some 1 := by kernel_rfl
/-- copy of bytes into bytes of the call's own -/
theorem run_copy32 {A : Nat → Prop} {w : World} {g n cap B : Nat} {l m : List UInt8} {u : Value} {ty : TypeId} (ho : Ob 5 B w (.slice (some ⟨g, 0, none⟩) n cap) l) (hu : Bs A w u m) (hm : m.length ≤ l.length) :
    ∃ x, (Builtin.copy_ #[32, 32] ty #[.slice (some ⟨g, 0, none⟩) n cap, u]).run Try.prog w = .ok x (w.setCells g 0 (bv m)) := by
  obtain ⟨a, c, rfl, hc, hn, H⟩ := hu.at
  obtain rfl := ho.len.1
  cases a with
  | none =>
    have hm0 : m = [] := by
      cases m with
      | nil => rfl
      | cons x r => obtain ⟨b, o, e, _⟩ := H 0 (by simp); cases e
    subst hm0
    refine ⟨goInt 0, ?_⟩
    obtain ⟨i0, hi, hi1⟩ : ∃ i0, Try.prog.info? 5 = some i0 ∧ i0.size = 1 := by
      have := Try.size5
      cases hq : Try.prog.info? 5 with
      | none => rw [hq] at this; cases this
      | some i => rw [hq] at this; exact ⟨i, rfl, by simpa using this⟩
    have hst := run_storeCells_cells (P := Try.prog) g 0 ([] : List Value) 0 w (by simp) (by simp) (by simp)
    simp only [World.setCells] at hst
    simp [Builtin.copy_, run_underlying Try.underlying32, sizeOf, typeInfo, hi, Builtin.lenOf, Builtin.firstCells, loadCells, loadCellsFrom, bv, World.setCells, hst]
  | some p =>
    refine ⟨_, run_copy_cells w 32 32 ty 5 g 0 l.length cap p m.length c (bv m) Try.underlying32 Try.size5 (by simp [Nat.min_def]; omega) (fun j v hj => ?_) (fun j hj => ?_) (fun j hj => ?_) (bv_one m)⟩
    · have hj' : j < m.length := by have := (List.getElem?_eq_some_iff.1 hj).1; simpa using this
      obtain ⟨b, o, e, _, h⟩ := H j hj'
      cases e
      rw [addr_add, h, ← hj, bv_get m j hj']
    · have hj' : j < l.length := by simp at hj; omega
      rw [Nat.zero_add, ho.cell j hj']; rfl
    · rw [Nat.zero_add]; exact ho.frozen j
/-- a struct of four cells in a block of its own -/
def Bx4 (b : Nat) (x0 x1 x2 x3 : Value) (w : World) : Prop := w.cell? ⟨b, 0, none⟩ = some x0 ∧ w.cell? ⟨b, 1, none⟩ = some x1 ∧ w.cell? ⟨b, 2, none⟩ = some x2 ∧ w.cell? ⟨b, 3, none⟩ = some x3
theorem Bx4.up {b : Nat} {x0 x1 x2 x3 : Value} {w w' : World} (h : Bx4 b x0 x1 x2 x3 w) (hb : Below w.heap.size w w') : Bx4 b x0 x1 x2 x3 w' :=
  ⟨cell_later hb h.1, cell_later hb h.2.1, cell_later hb h.2.2.1, cell_later hb h.2.2.2⟩
theorem Bx4.set {b g o : Nat} {x0 x1 x2 x3 u : Value} {w : World} (h : Bx4 b x0 x1 x2 x3 w) (hg : b ≠ g) : Bx4 b x0 x1 x2 x3 (w.setCell ⟨g, o, none⟩ u) := by
  have : ∀ i, (w.setCell ⟨g, o, none⟩ u).cell? ⟨b, i, none⟩ = w.cell? ⟨b, i, none⟩ := fun i => World.cell?_of_block (w := w) (a := ⟨b, i, none⟩) (Below.heap_setCell _ _ _ _ hg)
  unfold Bx4; simp only [this]; exact h
theorem hdr_leaf {n : Nd} (h : n.leaf = true) (m : Nat) : hdr n m = 1 :: be2 m := by unfold hdr; rw [h]; simp
theorem hdr_inner {n : Nd} (h : n.leaf = false) (m k : Nat) (hk : n.kids.getD 0 0 = (k : Int)) : hdr n m = (2 :: be2 m) ++ be2 k := by unfold hdr; rw [h, hk]; simp
theorem ent_leaf {n : Nd} (h : n.leaf = true) {k : Nat} (h1 : k < n.keys.length) (h2 : k < n.vals.length) : ent n k = ([UInt8.ofNat n.keys[k].length] ++ n.keys[k]) ++ (be2 n.vals[k].length ++ n.vals[k]) := by
  unfold ent; rw [h, getD_get _ _ _ h1, getD_get _ _ _ h2]; simp
theorem ent_inner {n : Nd} (h : n.leaf = false) {k m : Nat} (h1 : k < n.keys.length) (h2 : n.kids.getD (k + 1) 0 = (m : Int)) : ent n k = ([UInt8.ofNat n.keys[k].length] ++ n.keys[k]) ++ be2 m := by
  unfold ent; rw [h, getD_get _ _ _ h1, h2]; simp
theorem out_le {n : Nd} {k : Nat} (hf : formed n = true) (hs : size n ≤ 512) (hk : k ≤ n.keys.length) : (out n n.keys.length k).length ≤ 512 := by
  have h1 : (out n n.keys.length k).length ≤ (out n n.keys.length n.keys.length).length := by
    obtain ⟨d, hd⟩ := Nat.le.dest hk
    conv => rhs; rw [show out n n.keys.length n.keys.length = out n n.keys.length (k + d) by rw [hd]]
    clear hd
    induction d with
    | zero => exact Nat.le_refl _
    | succ d ih => rw [← Nat.add_assoc, out_succ, List.length_append]; omega
  have := enc_length hf
  unfold enc at this
  omega
theorem bv_take (a b : List UInt8) : (bv (a ++ b)).take a.length = bv a := by rw [bv_append, List.take_append_of_le_length (by simp), ← bv_length a, List.take_length]
theorem bv_drop (a b : List UInt8) : (bv (a ++ b)).drop a.length = bv b := by rw [bv_append, ← bv_length a, List.drop_left]
theorem Row.toLt {size n : Nat} {A : Nat → Prop} {w : World} {v : Value} {vs : List Value} (h : Row size A w v n vs) : Row size (Lt w.heap.size) w v n vs := by
  obtain ⟨hl, a, c, rfl, hc, ha, H⟩ := h
  refine ⟨hl, a, c, rfl, hc, ha, fun j u hj => ?_⟩
  obtain ⟨b, o, ha, _, hu⟩ := H j u hj
  exact ⟨b, o, ha, World.block_lt_of_cell? w ⟨b, o + j, none⟩ hu, hu⟩
theorem Bs.toLt {A : Nat → Prop} {w : World} {v : Value} {l : List UInt8} (h : Bs A w v l) : Bs (Lt w.heap.size) w v l := ⟨h.1.toLt, h.2⟩
theorem Bss.at' {A : Nat → Prop} {w : World} {a : Option Addr} {n c : Nat} {l : List (List UInt8)} (h : Bss A w (.slice a n c) l) : n = l.length ∧ ∀ j (hj : j < l.length), ∃ b o u, a = some ⟨b, o, none⟩ ∧ A b ∧ w.cell? ⟨b, o + j, none⟩ = some u ∧ Bs A w u l[j] := by
  obtain ⟨_, _, e, _, _, H⟩ := h.at
  cases e
  exact ⟨rfl, H⟩
theorem Is.at' {A : Nat → Prop} {w : World} {a : Option Addr} {n c : Nat} {l : List Int} (h : Is A w (.slice a n c) l) : n = l.length ∧ ∀ j (hj : j < l.length), ∃ b o, a = some ⟨b, o, none⟩ ∧ A b ∧ w.cell? ⟨b, o + j, none⟩ = some (.int .i64 l[j]) := by
  obtain ⟨_, _, e, _, _, H⟩ := h.at
  cases e
  exact ⟨rfl, H⟩
set_option maxRecDepth 100000 in
set_option maxHeartbeats 2000000 in
/-- leaf.Encode -/
theorem encode_any {A : Nat → Prop} {w : World} {v : Value} {n : Nd} (h : RN A w v n) (hk : n.keys.length ≤ 1000) (hv : n.vals.length ≤ 1000) (hc : n.kids.length ≤ 2000) : Calls Try.prog 18 #[v] w (EncPost w n) := by
  have hRN := h
  obtain ⟨k, u, c, rfl, h1, h2, h3⟩ := h
  obtain ⟨a1, c1, rfl, g1, _, _⟩ := h1.at
  obtain ⟨a2, c2, rfl, g2, _, _⟩ := h2.at
  obtain ⟨a3, c3, rfl, g3, _, _⟩ := h3.at
  have HC := Hid.mk' (fun w' (hb : Below w.heap.size w w') => check_any (hRN.up hb))
  have HS := Hid.mk' (fun w' (hb : Below w.heap.size w w') => size_any (hRN.up hb) hk hv hc)
  clear hRN
  have H1 := Hid.mk' h1
  have H2' := Hid.mk' h2
  have H3' := Hid.mk' h3
  clear h1 h2 h3
  have HE1 := Hid.mk' (@enc_bad n)
  have HE2 := Hid.mk' (@enc_big n)
  have HE3 := Hid.mk' (@enc_ok n)
  go_enter Try.func18, Try.ntmps18
  go_wp2_with fail
  obtain ⟨W, hW, ⟨b0, b1, b2, b3⟩, bf, hbW, hsz⟩ := box4 w (.bool n.leaf) (.slice a1 n.keys.length c1) (.slice a2 n.vals.length c2) (.slice a3 n.kids.length c3) 37
  rw [← hW]
  clear hW bf
  have BX : Hid (Bx4 w.heap.size (.bool n.leaf) (.slice a1 n.keys.length c1) (.slice a2 n.vals.length c2) (.slice a3 n.kids.length c3) W) := ⟨b0, b1, b2, b3⟩
  have HW := Hid.mk' hbW
  have HZ := Hid.mk' hsz
  have hbW0 := hbW
  clear hbW hsz
  go_wp2_with fail
  refine (HC.out _ HW.out).mono ?_
  rintro e w2 ⟨rfl, hb2⟩
  have H2 := Hid.mk' hb2
  obtain ⟨b0, b1, b2, b3⟩ : w2.cell? ⟨w.heap.size, 0, none⟩ = some (.bool n.leaf) ∧ w2.cell? ⟨w.heap.size, 1, none⟩ = some (.slice a1 n.keys.length c1) ∧ w2.cell? ⟨w.heap.size, 2, none⟩ = some (.slice a2 n.vals.length c2) ∧ w2.cell? ⟨w.heap.size, 3, none⟩ = some (.slice a3 n.kids.length c3) :=
    ⟨cell_later hb2 b0, cell_later hb2 b1, cell_later hb2 b2, cell_later hb2 b3⟩
  clear hb2 hbW0
  by_cases hch : check n = 0
  · have hch' : (check n != 0) = false := by simp [hch]
    have HCH := Hid.mk' hch
    clear hch HE1
    go_wp2_with fail
    refine (HS.out _ (bt HW.out H2.out)).mono ?_
    rintro e w3 ⟨rfl, hb3⟩
    have H3 := Hid.mk' hb3
    obtain ⟨b0, b1, b2, b3⟩ : w3.cell? ⟨w.heap.size, 0, none⟩ = some (.bool n.leaf) ∧ w3.cell? ⟨w.heap.size, 1, none⟩ = some (.slice a1 n.keys.length c1) ∧ w3.cell? ⟨w.heap.size, 2, none⟩ = some (.slice a2 n.vals.length c2) ∧ w3.cell? ⟨w.heap.size, 3, none⟩ = some (.slice a3 n.kids.length c3) :=
      ⟨cell_later hb3 b0, cell_later hb3 b1, cell_later hb3 b2, cell_later hb3 b3⟩
    clear hb3
    by_cases hsz : 512 < size n
    · have hsz' : (512 : Int) < (size n : Int) := by omega
      have HE := HE2.out HCH.out hsz
      have HE := Hid.mk' HE
      clear hsz
      go_wp2_with fail
      go_ret2
      exact ⟨_, by rw [HE.out.1]; rfl, by rw [HE.out.2]; exact ob_nil, bt HW.out (bt H2.out H3.out)⟩
    · have hsz' : ¬ (512 : Int) < (size n : Int) := by omega
      have HE := Hid.mk' (HE3.out HCH.out hsz)
      have HSZ := Hid.mk' hsz
      clear hsz HE2 HE3
      have hnk : (n.keys.length : Int) ≤ 512 := by have := @keys_le n.keys; have := HSZ.out; unfold size at this; omega
      have HTW := Hid.mk' (fun w => two_any n.keys.length (by omega) w)
      obtain ⟨HF, HK64, HV128⟩ := check_zero HCH.out
      have HF := Hid.mk' HF
      have HK64 := Hid.mk' HK64
      have HV128 := Hid.mk' HV128
      cases hlf : n.leaf with
      | true =>
        have HL := Hid.mk' (formed_leaf HF.out hlf)
        have hvk : n.vals.length = n.keys.length := HL.out.1
        rw [hlf] at b0 BX
        have HLF := Hid.mk' hlf
        clear hlf
        have hlt3 : w.heap.size < w3.heap.size := by have := H3.out.size; have := H2.out.size; have := HZ.out; omega
        go_wp2_with fail
        refine (HTW.out _).mono ?_
        rintro e w4 ⟨v4, rfl, hb4, ho4⟩
        have HB4 := Hid.mk' hb4
        have HO4 := Hid.mk' (ho4.bs (by simp [lim]))
        have HBW := Hid.mk' (bt H2.out H3.out)
        clear hb4 ho4
        go_wp2_with (at_builtin; go_must (refine app32b (W := W) (l := [2]) (m := be2 n.keys.length) rfl (.tmp 17) (.tmp 21) rfl rfl (bt HBW.out (bt (up_alloc _ _) HB4.out)) ((ob_lit1 HBW.out.size 2 2 rfl).keep HB4.out (Nat.le_refl _)) rfl HO4.out (by simp [lim]) ?_); intro v5 w5 ho5 hb5; obtain ⟨g, cap, e5⟩ := ho5.form (by simp); have e5 : v5 = .slice (some ⟨g, 0, none⟩) 3 cap := e5; subst e5; have hg := (ho5.len).2.1; have hcell := ho5.cell 0 (by simp); have hfr := ho5.frozen 0; have BX5 := Hid.mk' (BX.out.up hb5); have HO5 := Hid.mk' ho5; have HB5 := Hid.mk' hb5; clear ho5 hb5; obtain ⟨b0, b1, b2, b3⟩ := BX5.out; obtain ⟨s0, s1, s2, s3⟩ := BX5.out.set (g := g) (o := 0) (u := .int .u8 1) (by have := HZ.out; omega))
        have hne : w.heap.size ≠ g := by have := HZ.out; omega
        have HO6 : Hid (Ob 5 W.heap.size (w5.setCell ⟨g, 0, none⟩ (.int .u8 1)) (.slice (some ⟨g, 0, none⟩) 3 cap) (out n n.keys.length 0)) := by
          rw [out_zero, hdr_leaf HLF.out]; exact HO5.out.set 0 1
        have HB6 := Hid.mk' (HB5.out.setCell (p := ⟨g, 0, none⟩) hg (.int .u8 1))
        have BX6 := Hid.mk' (BX5.out.set (g := g) (o := 0) (u := .int .u8 1) hne)
        generalize w5.setCell ⟨g, 0, none⟩ (.int .u8 1) = w6 at *
        clear b0 b1 b2 b3 s0 s1 s2 s3 hcell hfr hg hne HO5 HB5 BX5
        go_loopw [5, 37] (fun o i wr => ∃ k : Nat, k ≤ n.keys.length ∧ i = .int .i64 k ∧ Hid (Below W.heap.size W wr) ∧ Hid (Ob 5 W.heap.size wr o (out n n.keys.length k))) (fun _ i _ => n.keys.length - (intOf i).toNat)
        case atStart => exact ⟨0, by omega, rfl, HB6, HO6⟩
        case round =>
          obtain ⟨k, hk', rfl, HB, HO⟩ := hrel
          have HLN := Hid.mk' (out_le (k := k) HF.out (by have := HSZ.out; omega) hk')
          obtain ⟨b0, b1, b2, b3⟩ := BX.out.up HB.out
          by_cases hlt : k < n.keys.length
          · have hlt' : (k : Int) < (n.keys.length : Int) := by omega
            have hkv : k < n.vals.length := by omega
            obtain ⟨b, o, x, rfl, _, hu0, hx⟩ := (H1.out.at').2 k hlt
            obtain ⟨b', o', y, rfl, _, hv0, hy⟩ := (H2'.out.at').2 k hkv
            have hu := cell_later (bt HW.out HB.out) hu0
            obtain ⟨a4, c4, rfl, _⟩ := hx.at
            obtain ⟨a5, c5, rfl, _⟩ := hy.at
            have HX := Hid.mk' hx
            have HY := Hid.mk' hy
            have HV0 := Hid.mk' hv0
            have hl4 : n.keys[k].length ≤ 64 := HK64.out _ (List.getElem_mem hlt)
            have hl5 : n.vals[k].length ≤ 128 := HV128.out _ (List.getElem_mem hkv)
            have HT := Hid.mk' (out_succ n n.keys.length k)
            have HEN := Hid.mk' (ent_leaf HLF.out hlt hkv)
            clear hx hy hu0 hv0
            generalize n.keys[k] = ky at *
            generalize n.vals[k] = vl at *
            have HR := Hid.mk' (HT.out.trans (congrArg (out n n.keys.length k ++ ·) HEN.out))
            generalize out n n.keys.length k = ou at *
            clear HT HEN
            go_wp2_with (first
              | (at_builtin; refine app32b (W := W) (v := u5) (l := ou) (m := [UInt8.ofNat ky.length]) rfl (.tmp 42) (.tmp 46) rfl rfl (HB.out.alloc HB.out.size _) (HO.out.alloc _) rfl (bs_lit _ _ (by simp; omega)) (by have := HLN.out; simp [lim]; omega) ?_; intro v7 w7 ho7 hb7; have HO7 := Hid.mk' ho7; have HB7 := Hid.mk' hb7; clear ho7 hb7)
              | (at_builtin; refine app32b (W := W) (v := v7) (l := ou ++ [UInt8.ofNat ky.length]) (m := ky) rfl (.tmp 47) (.tmp 48) rfl rfl HB7.out HO7.out rfl (HX.out.up (bt HW.out HB7.out)) (by have := HLN.out; simp [lim]; omega) ?_; intro v8 w8 ho8 hb8; have HO8 := Hid.mk' ho8; have HB8 := Hid.mk' hb8; obtain ⟨b0, b1, b2, b3⟩ := BX.out.up hb8; clear ho8 hb8))
            have hgb : ∀ i, v8.ownBlock = some i → w.heap.size + 1 ≤ i ∧ i < w8.heap.size := fun i hi => by have := HO8.out.lt i hi; have := HZ.out; omega
            have hwg : some w.heap.size ≠ v8.ownBlock := fun e => by have := hgb _ e.symm; omega
            have hbg : some b' ≠ v8.ownBlock := fun e => by have := hgb _ e.symm; have := World.block_lt_of_cell? w ⟨b', o' + k, none⟩ HV0.out; dsimp only at this; omega
            obtain ⟨l8, hl8⟩ : ∃ l8, l8 = (ou ++ [UInt8.ofNat ky.length]) ++ ky := ⟨_, rfl⟩
            rw [← hl8] at HO8
            have hl8n : l8.length ≤ 577 := by rw [hl8]; have := HLN.out; simp; omega
            have HL8 := Hid.mk' hl8
            clear hl8
            generalize hF : bv (l8 ++ (be2 vl.length ++ vl)) = F
            have hFl : F.take l8.length = bv l8 := by rw [← hF]; exact bv_take _ _
            have hF2 : F.take (l8 ++ be2 vl.length).length = bv (l8 ++ be2 vl.length) := by rw [← hF, ← List.append_assoc]; exact bv_take _ _
            have hF3 : (F.take (l8 ++ be2 vl.length).length).drop l8.length = bv (be2 vl.length) := by rw [hF2]; exact bv_drop _ _
            have hF1 : ∀ u ∈ F, u.oneCell' = true := by rw [← hF]; exact bv_one _
            clear hF
            have r0 : ∀ p : TgS v8.ownBlock W.heap.size 5 F w8, p.nx.cell? ⟨w.heap.size, 2, none⟩ = some _ := fun p => p.cell b2 hwg
            have r1 : ∀ p : TgS v8.ownBlock W.heap.size 5 F w8, p.nx.cell? ⟨b', o' + k, none⟩ = some _ := fun p => p.cell (cell_later (bt HW.out HB8.out) HV0.out) hbg
            have HYY : Hid (∀ p : TgS v8.ownBlock W.heap.size 5 F w8, Bs (Lt w.heap.size) p.nx (.slice a5 vl.length c5) vl) := fun p => (HY.out.toLt.up (bt HW.out HB8.out)).apart (fun b hb => ⟨Nat.lt_of_lt_of_le hb (Nat.le_trans HW.out.size HB8.out.size), fun e => by have := hgb _ e.symm; have : b < w.heap.size := hb; omega⟩) p.ok
            refine wp_region_free 14 (Tg v8.ownBlock W.heap.size 5 F) (fun w' => ∃ p : TgS v8.ownBlock W.heap.size 5 F w8, w' = p.nx) (gul v8.ownBlock W.heap.size 5 F [(59, GL.bytes _ _ _ _ (be2 vl.length)), (60, GL.row _ _ _ _ (l8 ++ be2 vl.length).length)]) (by kernel_rfl) (by kernel_rfl) (gul_ck _ _ _ _ _) (tg_first w8) ?_
            simp only [List.take_succ_cons, List.take_zero, List.drop_succ_cons, List.drop_zero]
            refine wf_take 7 rfl ?_
            simp only [List.take_succ_cons, List.take_zero, List.drop_succ_cons, List.drop_zero]
            repeat (go_big_quiet_step (fail))
            refine wpQuiet_nil ?_
            refine wf_call (V := (GL.bytes v8.ownBlock W.heap.size 5 F (be2 vl.length)).1) (vals := [.int .i64 vl.length]) Try.func62 (by kernel_rfl) rfl rfl (by kernel_rfl) (by kernel_rfl) (by kernel_rfl) (fun w1 hC _ => ?_) (fun u1 ho1 => ?_)
            · obtain ⟨p, rfl⟩ := hC
              refine (two_any vl.length (by omega) p.nx).mono ?_
              rintro e w' ⟨v', rfl, h1, h2⟩
              obtain ⟨aa, cc, e, _⟩ := (h2.bs (by simp [lim])).at
              exact ⟨v', rfl, Tg.of h1, ⟨aa, cc, e⟩, h2.off (by simp [lim]) fun i hi => by have := hgb i hi; have := p.size; omega⟩
            simp only [Act.put, List.setIfInBounds_toArray, List.set_cons_succ, List.set_cons_zero]
            refine wf_app (V := (GL.row v8.ownBlock W.heap.size 5 F (l8 ++ be2 vl.length).length).1) rfl rfl rfl (by kernel_rfl) (by kernel_rfl) (fun w1 hC hK => ?_) (fun u2 ho2 => ?_)
            · obtain ⟨p, rfl⟩ := hC
              have k1 := hK 59 _ _ (looks_of (by kernel_rfl)) (.inr ⟨rfl, rfl⟩) rfl
              have k1 : Bs (Off v8.ownBlock p.nx) p.nx u1 (be2 vl.length) := k1
              have own : p.nx.ownsRow W.heap.size 5 1 v8 l8.length (F.take l8.length) := p.ok.2 _ _ (by rw [hFl]; exact HO8.out)
              have hn2 : (l8 ++ be2 vl.length).length = l8.length + 2 := by simp
              obtain ⟨v', w', k2, k3, k4, k5⟩ := tg_app (P := Try.prog) 32 32 Try.underlying32 Try.info5 rfl (n := l8.length) (m := 2) own (by rw [← hn2, hF3]; exact k1.1) hF1 (by unfold maxLen; omega) (by omega) (Nat.le_trans HB8.out.size p.size)
              rw [← hn2] at k3
              exact ⟨v', w', k2, k4, own_slice k3, k3⟩
            simp only [Act.put, List.setIfInBounds_toArray, List.set_cons_succ, List.set_cons_zero]
            refine wf_take 5 rfl ?_
            simp only [List.take_succ_cons, List.take_zero, List.drop_succ_cons, List.drop_zero]
            repeat (go_big_quiet_step (fail))
            refine wpQuiet_nil ?_
            intro w1 hC hK
            have k2 := hK 60 _ _ trivial (.inr ⟨rfl, rfl⟩) rfl
            obtain ⟨p, rfl⟩ := hC
            have HO9 : Hid (Ob 5 W.heap.size p.nx u2 (l8 ++ be2 vl.length)) := by
              have k2 : p.nx.ownsRow W.heap.size 5 1 u2 (l8 ++ be2 vl.length).length (F.take (l8 ++ be2 vl.length).length) := k2
              rw [hF2] at k2; exact k2
            have HB9 : Hid (Below W.heap.size W p.nx) := HB8.out.trans (p.ok.below HB8.out.size fun i hi => (HO8.out.lt i hi).1)
            have HYp := Hid.mk' (HYY.out p)
            generalize p.nx = w9 at *
            clear hK k2 r0 r1 hFl hF2 hF3 hF1 b0 b1 b2 b3 hgb hwg hbg
            go_wp2_with (first
              | (at_builtin; refine app32b (W := W) (v := u2) (l := l8 ++ be2 vl.length) (m := vl) rfl (.tmp 60) (.tmp 65) rfl rfl HB9.out HO9.out rfl HYp.out (by simp [lim]; omega) ?_; intro v10 w10 ho10 hb10; have HO10 := Hid.mk' ho10; have HB10 := Hid.mk' hb10; clear ho10 hb10))
            go_roundw
            case rel => exact ⟨k + 1, by omega, by go_num, HB10, Hid.mk' (by rw [HR.out]; have h := HO10.out; rw [HL8.out] at h; simpa using h)⟩
            case measure => simp [intOf]; omega
          · obtain rfl : k = n.keys.length := by omega
            have hm := mk512
            have hwr := HB.out.size
            have hOz := ob_zeros 512 (by decide) wr 5
            have hBz := HB.out.alloc HB.out.size (.cells (zeros 512) 5)
            have hos := (HO.out.alloc (.cells (zeros 512) 5)).bs (by have := HLN.out; unfold lim; omega)
            obtain ⟨x, hx⟩ := run_copy32 (ty := 3) hOz hos (by have := HLN.out; simpa using this)
            have hov := hOz.over (out n n.keys.length n.keys.length) 0 (by have := HLN.out; simpa using this)
            have hOZ := Hid.mk' hov
            have HBZ := Hid.mk' (below_over (g := wr.heap.size) HB.out.size (bv (out n n.keys.length n.keys.length)) 0 hBz)
            clear hOz hBz hos hov
            obtain ⟨x5, z5, e5⟩ := own_slice HO.out
            subst e5
            go_wp2_with (at_builtin; refine wpl_copy rfl (.tmp 78) (.tmp 79) 32 32 rfl rfl rfl hx ?_)
            go_ret2
            refine ⟨.slice (some ⟨wr.heap.size, 0, none⟩) 512 512, by rw [HE.out.1]; rfl, ?_, bt HW.out HBZ.out⟩
            rw [HE.out.2]
            have h := Ob.mono hOZ.out (Nat.le_trans HW.out.size HB.out.size)
            rw [List.take_zero, List.nil_append, Nat.zero_add, List.drop_replicate] at h
            unfold page enc
            exact h
      | false =>
        have HL := Hid.mk' (formed_inner HF.out hlf)
        have hck : n.kids.length = n.keys.length + 1 := HL.out.2.1
        rw [hlf] at b0 BX
        have HLF := Hid.mk' hlf
        clear hlf
        have h0k : 0 < n.kids.length := by omega
        obtain ⟨m0, hm0⟩ : ∃ m0 : Nat, n.kids[0] = (m0 : Int) := ⟨n.kids[0].toNat, by have := (HL.out.2.2 _ (List.getElem_mem h0k)).1; omega⟩
        have hm0b : m0 ≤ 65535 := by have := (HL.out.2.2 _ (List.getElem_mem h0k)).2; omega
        obtain ⟨b, o, rfl, _, hu0⟩ := (H3'.out.at').2 0 h0k
        rw [hm0, Nat.add_zero] at hu0
        have HD := Hid.mk' (hdr_inner HLF.out n.keys.length m0 (by rw [getD_get _ _ _ h0k]; exact hm0))
        have HTM := Hid.mk' (fun w => two_any m0 hm0b w)
        have HU0 := Hid.mk' hu0
        clear hm0 hm0b hu0
        have hlt3 : w.heap.size < w3.heap.size := by have := H3.out.size; have := H2.out.size; have := HZ.out; omega
        go_wp2_with fail
        refine (HTW.out _).mono ?_
        rintro e w4 ⟨v4, rfl, hb4, ho4⟩
        have HB4 := Hid.mk' hb4
        have HO4 := Hid.mk' (ho4.bs (by simp [lim]))
        have HBW := Hid.mk' (bt H2.out H3.out)
        clear hb4 ho4
        go_wp2_with (at_builtin; go_must (refine app32b (W := W) (l := [2]) (m := be2 n.keys.length) rfl (.tmp 17) (.tmp 21) rfl rfl (bt HBW.out (bt (up_alloc _ _) HB4.out)) ((ob_lit1 HBW.out.size 2 2 rfl).keep HB4.out (Nat.le_refl _)) rfl HO4.out (by simp [lim]) ?_); intro v5 w5 ho5 hb5; have hu5 := cell_later (bt HW.out hb5) HU0.out; have BX5 := Hid.mk' (BX.out.up hb5); have HO5 := Hid.mk' ho5; have HB5 := Hid.mk' hb5; clear ho5 hb5; obtain ⟨b0, b1, b2, b3⟩ := BX5.out)
        refine (HTM.out _).mono ?_
        rintro e w51 ⟨v51, rfl, hb51, ho51⟩
        have HB51 := Hid.mk' (bt HB5.out hb51)
        have HO51 := Hid.mk' (HO5.out.keep hb51 (Nat.le_refl _))
        have HO52 := Hid.mk' (ho51.bs (by simp [lim]))
        clear hb51 ho51 hu5
        go_wp2_with (at_builtin; go_must (refine app32b (W := W) (v := v5) (l := [2] ++ be2 n.keys.length) (m := be2 m0) rfl (.tmp 27) (.tmp 32) rfl rfl HB51.out HO51.out rfl HO52.out (by simp [lim]) ?_); intro v6 w6 ho6 hb6; have BX6 := Hid.mk' (BX.out.up hb6); have HB6 := Hid.mk' hb6; have HO6 : Hid (Ob 5 W.heap.size w6 v6 (out n n.keys.length 0)) := (by rw [out_zero, HD.out]; exact ho6); clear ho6 hb6; obtain ⟨b0, b1, b2, b3⟩ := BX6.out)
        clear b0 b1 b2 b3
        go_loopw [5, 37] (fun o i wr => ∃ k : Nat, k ≤ n.keys.length ∧ i = .int .i64 k ∧ Hid (Below W.heap.size W wr) ∧ Hid (Ob 5 W.heap.size wr o (out n n.keys.length k))) (fun _ i _ => n.keys.length - (intOf i).toNat)
        case atStart => exact ⟨0, by omega, rfl, HB6, HO6⟩
        case round =>
          obtain ⟨k, hk', rfl, HB, HO⟩ := hrel
          have HLN := Hid.mk' (out_le (k := k) HF.out (by have := HSZ.out; omega) hk')
          obtain ⟨b0, b1, b2, b3⟩ := BX.out.up HB.out
          by_cases hlt : k < n.keys.length
          · have hlt' : (k : Int) < (n.keys.length : Int) := by omega
            have hkv : k + 1 < n.kids.length := by omega
            obtain ⟨b', o', x, rfl, _, hu0, hx⟩ := (H1.out.at').2 k hlt
            obtain ⟨_, _, e, _, hv0⟩ := (H3'.out.at').2 (k + 1) hkv
            cases e
            have hu := cell_later (bt HW.out HB.out) hu0
            obtain ⟨a4, c4, rfl, _⟩ := hx.at
            have HX := Hid.mk' hx
            obtain ⟨m, hm⟩ : ∃ m : Nat, n.kids[k + 1] = (m : Int) := ⟨n.kids[k + 1].toNat, by have := (HL.out.2.2 _ (List.getElem_mem hkv)).1; omega⟩
            have hmb : m ≤ 65535 := by have := (HL.out.2.2 _ (List.getElem_mem hkv)).2; omega
            rw [hm] at hv0
            have HV0 := Hid.mk' hv0
            have HTM := Hid.mk' (fun w => two_any m hmb w)
            have hl4 : n.keys[k].length ≤ 64 := HK64.out _ (List.getElem_mem hlt)
            have HT := Hid.mk' (out_succ n n.keys.length k)
            have HEN := Hid.mk' (ent_inner HLF.out hlt (m := m) (by rw [getD_get _ _ _ hkv]; exact hm))
            clear hx hu0 hv0 hm hmb
            generalize n.keys[k] = ky at *
            have HR := Hid.mk' (HT.out.trans (congrArg (out n n.keys.length k ++ ·) HEN.out))
            generalize out n n.keys.length k = ou at *
            clear HT HEN
            go_wp2_with (first
              | (at_builtin; refine app32b (W := W) (v := u5) (l := ou) (m := [UInt8.ofNat ky.length]) rfl (.tmp 42) (.tmp 46) rfl rfl (HB.out.alloc HB.out.size _) (HO.out.alloc _) rfl (bs_lit _ _ (by simp; omega)) (by have := HLN.out; simp [lim]; omega) ?_; intro v7 w7 ho7 hb7; have HO7 := Hid.mk' ho7; have HB7 := Hid.mk' hb7; clear ho7 hb7)
              | (at_builtin; refine app32b (W := W) (v := v7) (l := ou ++ [UInt8.ofNat ky.length]) (m := ky) rfl (.tmp 47) (.tmp 48) rfl rfl HB7.out HO7.out rfl (HX.out.up (bt HW.out HB7.out)) (by have := HLN.out; simp [lim]; omega) ?_; intro v8 w8 ho8 hb8; have hv8 := cell_later (bt HW.out hb8) HV0.out; have HO8 := Hid.mk' ho8; have HB8 := Hid.mk' hb8; obtain ⟨b0, b1, b2, b3⟩ := BX.out.up hb8; clear ho8 hb8))
            refine (HTM.out _).mono ?_
            rintro e w9 ⟨v9, rfl, hb9, ho9⟩
            have HB9 := Hid.mk' (bt HB8.out hb9)
            have HO9 := Hid.mk' (HO8.out.keep hb9 (Nat.le_refl _))
            have HO90 := Hid.mk' (ho9.bs (by simp [lim]))
            clear hb9 ho9 hv8 hu
            go_wp2_with (first
              | (at_builtin; refine app32b (W := W) (v := v8) (l := (ou ++ [UInt8.ofNat ky.length]) ++ ky) (m := be2 m) rfl (.tmp 67) (.tmp 74) rfl rfl HB9.out HO9.out rfl HO90.out (by have := HLN.out; simp [lim]; omega) ?_; intro v10 w10 ho10 hb10; have HO10 := Hid.mk' ho10; have HB10 := Hid.mk' hb10; clear ho10 hb10))
            go_roundw
            case rel => exact ⟨k + 1, by omega, by go_num, HB10, Hid.mk' (by rw [HR.out]; have h := HO10.out; simpa using h)⟩
            case measure => simp [intOf]; omega
          · obtain rfl : k = n.keys.length := by omega
            have hm := mk512
            have hwr := HB.out.size
            have hOz := ob_zeros 512 (by decide) wr 5
            have hBz := HB.out.alloc HB.out.size (.cells (zeros 512) 5)
            have hos := (HO.out.alloc (.cells (zeros 512) 5)).bs (by have := HLN.out; unfold lim; omega)
            obtain ⟨x, hx⟩ := run_copy32 (ty := 3) hOz hos (by have := HLN.out; simpa using this)
            have hov := hOz.over (out n n.keys.length n.keys.length) 0 (by have := HLN.out; simpa using this)
            have hOZ := Hid.mk' hov
            have HBZ := Hid.mk' (below_over (g := wr.heap.size) HB.out.size (bv (out n n.keys.length n.keys.length)) 0 hBz)
            clear hOz hBz hos hov
            obtain ⟨x5, z5, e5⟩ := own_slice HO.out
            subst e5
            go_wp2_with (at_builtin; refine wpl_copy rfl (.tmp 78) (.tmp 79) 32 32 rfl rfl rfl hx ?_)
            go_ret2
            refine ⟨.slice (some ⟨wr.heap.size, 0, none⟩) 512 512, by rw [HE.out.1]; rfl, ?_, bt HW.out HBZ.out⟩
            rw [HE.out.2]
            have h := Ob.mono hOZ.out (Nat.le_trans HW.out.size HB.out.size)
            rw [List.take_zero, List.nil_append, Nat.zero_add, List.drop_replicate] at h
            unfold page enc
            exact h
  · have hch' : (check n != 0) = true := by simp [hch]
    have HE := Hid.mk' (HE1.out hch)
    clear hch
    go_wp2_with fail
    go_ret2
    exact ⟨_, by rw [HE.out.1]; rfl, by rw [HE.out.2]; exact ob_nil, bt HW.out H2.out⟩
end Go.Proofs.Ytfmbbpfklhkljaa
