/- What LeafKeeps needs beside its walk. groynelaw08.LeafKeeps. -/
import Derived.Test.YtfmbbpfklhkljaaTS
import Derived.Test.YtfmbbpfklhkljaaSK
import Derived.StillTailTactics
set_option linter.unusedVariables false
set_option linter.unusedSimpArgs false
namespace Go.Proofs.Ytfmbbpfklhkljaa
open Go.RowKit
/-- a leaf of one entry, its rows boxes of one -/
theorem one_node {w V : World} {x y : Value} {key value : List UInt8} (hV : V = ((w.alloc (.cells #[x] 32)).alloc (.cells #[y] 32)).alloc (.cells #[.bool true, .slice (some ⟨w.heap.size, 0, none⟩) 1 1, .slice (some ⟨w.heap.size + 1, 0, none⟩) 1 1, .slice none 0 0] 37)) (hx : Bs (Lt w.heap.size) w x key) (hy : Bs (Lt w.heap.size) w y value) :
    Below w.heap.size w V ∧ V.heap.size = w.heap.size + 3 ∧ V.heap[w.heap.size + 2]? = some (.cells #[.bool true, .slice (some ⟨w.heap.size, 0, none⟩) 1 1, .slice (some ⟨w.heap.size + 1, 0, none⟩) 1 1, .slice none 0 0] 37 (0, 0)) ∧
      RN (Lt V.heap.size) V (.agg #[.bool true, .slice (some ⟨w.heap.size, 0, none⟩) 1 1, .slice (some ⟨w.heap.size + 1, 0, none⟩) 1 1, .slice none 0 0]) ⟨true, [key], [value], []⟩ := by
  obtain ⟨W1, e1⟩ : ∃ W1, W1 = w.alloc (.cells #[x] 32) := ⟨_, rfl⟩
  rw [← e1] at hV
  obtain ⟨W2, e2⟩ : ∃ W2, W2 = W1.alloc (.cells #[y] 32) := ⟨_, rfl⟩
  rw [← e2] at hV
  have s1 : W1.heap.size = w.heap.size + 1 := by rw [e1]; simp
  have s2 : W2.heap.size = w.heap.size + 2 := by rw [e2]; simp [s1]
  have s3 : V.heap.size = w.heap.size + 3 := by rw [hV]; simp [s2]
  have b1 : Below w.heap.size w W1 := by rw [e1]; exact up_alloc _ _
  have b2 : Below W1.heap.size W1 W2 := by rw [e2]; exact up_alloc _ _
  have b3 : Below W2.heap.size W2 V := by rw [hV]; exact up_alloc _ _
  have b13 : Below W1.heap.size W1 V := bt b2 b3
  have bb : Below w.heap.size w V := bt b1 b13
  have k1 : V.heap[w.heap.size + 2]? = some (.cells #[.bool true, .slice (some ⟨w.heap.size, 0, none⟩) 1 1, .slice (some ⟨w.heap.size + 1, 0, none⟩) 1 1, .slice none 0 0] 37 (0, 0)) := by
    rw [hV, ← s2]; exact heap_alloc_new W2 _
  have k2 : V.heap[w.heap.size]? = some (.cells #[x] 32 (0, 0)) := by
    rw [b13.block _ (by omega), e1]; exact heap_alloc_new w _
  have k3 : V.heap[w.heap.size + 1]? = some (.cells #[y] 32 (0, 0)) := by
    rw [b3.block _ (by omega), e2, ← s1]; exact heap_alloc_new W1 _
  have one : ∀ (g : Nat) (z : Value) (l : List UInt8), g < V.heap.size → V.heap[g]? = some (.cells #[z] 32 (0,0)) → Bs (Lt w.heap.size) w z l → Bss (Lt V.heap.size) V (.slice (some ⟨g,0,none⟩) 1 1) [l] := fun g z l hlt hg hz => by
    refine ⟨[z], ⟨rfl, _, _, rfl, Nat.le_refl _, by simp, fun j u hj => ⟨_, _, rfl, hlt, ?_⟩⟩, ⟨rfl, fun i a b => ?_⟩, by unfold lim; simp⟩
    · have : j = 0 := by
        have := (List.getElem?_eq_some_iff.1 hj).1
        simpa using this
      subst this
      simp at hj
      subst hj
      simp [World.cell?, hg]
    · have : i = 0 := by simpa using a
      subst this
      exact (hz.up bb).mono bb.size
  refine ⟨bb, s3, k1, _, _, _, rfl, one _ _ _ (by omega) k2 hx, one _ _ _ (by omega) k3 hy, ?_⟩
  exact is_nil
/-- a list of own blocks that lie in [lo, hi), apart -/
def Grp (lo hi : Nat) (l : List Value) : Prop := l.Pairwise Ap ∧ ∀ v ∈ l, ∀ k, v.ownBlock = some k → lo ≤ k ∧ k < hi
theorem Grp.app {a b c d : Nat} {l m : List Value} (h : Grp a b l) (h' : Grp c d m) (h1 : a ≤ b) (h2 : b ≤ c) (h3 : c ≤ d) : Grp a d (l ++ m) := by
  refine ⟨List.pairwise_append.2 ⟨h.1, h'.1, fun x hx y hy k e e' => ?_⟩, fun v hv k e => ?_⟩
  · have := h.2 x hx k e
    have := h'.2 y hy k e'
    omega
  · rcases List.mem_append.1 hv with hv | hv
    · have := h.2 v hv k e; omega
    · have := h'.2 v hv k e; omega
theorem Grp.sub {a b : Nat} {l m : List Value} (h : Grp a b l) (hs : m.Sublist l) : Grp a b m := ⟨h.1.sublist hs, fun v hv => h.2 v (hs.subset hv)⟩
theorem Grp.one {B : Nat} {w : World} {v : Value} {l : List UInt8} (h : Ob 5 B w v l) : Grp B w.heap.size [v] :=
  ⟨List.pairwise_singleton _ _, fun u hu k e => by obtain rfl := List.mem_singleton.1 hu; exact h.lt k e⟩
theorem Spn.grp {B : Nat} {n : Nd} {kv vv : Value} {us xs : List Value} {w : World} (h : Spn B n kv vv us xs w) : Grp B w.heap.size (us ++ xs) := ⟨h.sp, h.lt⟩
theorem Grp.sep {a b : Nat} {l : List Value} (h : Grp a b l) (i j : Nat) (hi : i < l.length) (hj : j < l.length) (hij : i ≠ j) (k : Nat) (e : l[i].ownBlock = some k) : l[j].ownBlock ≠ some k := by
  have hp := List.pairwise_iff_getElem.1 h.1
  rcases Nat.lt_or_gt_of_ne hij with hlt | hlt
  · exact hp i j hi hj hlt k e
  · exact fun e' => hp j i hj hi hlt k e' e
/-- a row that is known: where it begins and what stands in it -/
theorem row_form {B : Nat} {w : World} {v : Value} {us : List Value} (h : w.ownsRow B 32 1 v us.length us) (hl : 0 < us.length) : ∃ g c, v = .slice (some ⟨g, 0, none⟩) us.length c ∧ g < w.heap.size ∧ ∀ t (h : t < us.length), w.cell? ⟨g, t, none⟩ = some us[t] := by
  have h' := h
  obtain ⟨h0, ⟨rfl, e⟩ | ⟨g', cap', cur, hv, hb, hg, h1, h2, h3, h4⟩⟩ := h'
  · rw [e] at hl; simp at hl
  · subst hv
    exact ⟨g', cap', rfl, (Array.getElem?_eq_some_iff.1 hg).1, fun t ht => by rw [World.ownsRow.cellAt h t (by omega), List.getElem?_eq_getElem ht]⟩
/-- a node of known rows, its first rows' places -/
theorem spn_form {B : Nat} {n : Nd} {kv vv : Value} {us xs : List Value} {w : World} (h : Spn B n kv vv us xs w) (hk : 0 < n.keys.length) (hv : 0 < n.vals.length) : ∃ g c g' c', kv = .slice (some ⟨g, 0, none⟩) n.keys.length c ∧ vv = .slice (some ⟨g', 0, none⟩) n.vals.length c' ∧ g < w.heap.size ∧ g' < w.heap.size ∧ (∀ t (h : t < us.length), w.cell? ⟨g, t, none⟩ = some us[t]) ∧ ∀ t (h : t < xs.length), w.cell? ⟨g', t, none⟩ = some xs[t] := by
  obtain ⟨g, c, e, h1, h2⟩ := row_form h.kr (by rw [h.kl]; exact hk)
  obtain ⟨g', c', e', h1', h2'⟩ := row_form h.vr (by rw [h.vl]; exact hv)
  exact ⟨g, c, g', c', by rw [← h.kl]; exact e, by rw [← h.vl]; exact e', h1, h1', h2, h2'⟩
theorem two_of {us : List Value} (h : us.length = 2) : ∃ a b, us = [a, b] := by
  match us, h with
  | [a, b], _ => exact ⟨a, b, rfl⟩
theorem one_of {us : List Value} (h : us.length = 1) : ∃ a, us = [a] := by
  match us, h with
  | [a], _ => exact ⟨a, rfl⟩
/-- one key, one value: where they stand -/
theorem spn1 {B : Nat} {w : World} {k x : List UInt8} {kv vv : Value} {us xs : List Value} (h : Spn B ⟨true, [k], [x], []⟩ kv vv us xs w) : ∃ g c g' c' a0 d0 a1 d1, kv = .slice (some ⟨g, 0, none⟩) 1 c ∧ vv = .slice (some ⟨g', 0, none⟩) 1 c' ∧ (w.cell? ⟨g, 0, none⟩ = some (.slice a0 k.length d0) ∧ w.cell? ⟨g', 0, none⟩ = some (.slice a1 x.length d1)) ∧ (Ob 5 B w (.slice a0 k.length d0) k ∧ Ob 5 B w (.slice a1 x.length d1) x) ∧ Grp B w.heap.size [.slice a0 k.length d0, .slice a1 x.length d1] := by
  obtain ⟨g, c, g', c', e1, e2, _, _, h1, h2⟩ := spn_form h (by simp) (by simp)
  obtain ⟨u, rfl⟩ := one_of h.kl
  obtain ⟨y, rfl⟩ := one_of h.vl
  have o1 := h.ke 0 (by simp) (by simp)
  have o2 := h.ve 0 (by simp) (by simp)
  simp only [List.getElem_cons_zero] at o1 o2
  obtain ⟨a0, d0, rfl⟩ := own_slice o1
  obtain ⟨a1, d1, rfl⟩ := own_slice o2
  exact ⟨g, c, g', c', a0, d0, a1, d1, e1, e2, ⟨h1 0 (by simp), h2 0 (by simp)⟩, ⟨o1, o2⟩, h.grp⟩
/-- two keys, two values -/
theorem spn2 {B : Nat} {w : World} {k k' x x' : List UInt8} {kv vv : Value} {us xs : List Value} (h : Spn B ⟨true, [k, k'], [x, x'], []⟩ kv vv us xs w) : ∃ g c g' c' a0 d0 a1 d1 a2 d2 a3 d3, kv = .slice (some ⟨g, 0, none⟩) 2 c ∧ vv = .slice (some ⟨g', 0, none⟩) 2 c' ∧ (w.cell? ⟨g, 0, none⟩ = some (.slice a0 k.length d0) ∧ w.cell? ⟨g, 1, none⟩ = some (.slice a1 k'.length d1) ∧ w.cell? ⟨g', 0, none⟩ = some (.slice a2 x.length d2) ∧ w.cell? ⟨g', 1, none⟩ = some (.slice a3 x'.length d3)) ∧
    (Ob 5 B w (.slice a0 k.length d0) k ∧ Ob 5 B w (.slice a1 k'.length d1) k' ∧ Ob 5 B w (.slice a2 x.length d2) x ∧ Ob 5 B w (.slice a3 x'.length d3) x') ∧ Grp B w.heap.size [.slice a0 k.length d0, .slice a1 k'.length d1, .slice a2 x.length d2, .slice a3 x'.length d3] := by
  obtain ⟨g, c, g', c', e1, e2, _, _, h1, h2⟩ := spn_form h (by simp) (by simp)
  obtain ⟨u, u', rfl⟩ := two_of h.kl
  obtain ⟨y, y', rfl⟩ := two_of h.vl
  have o1 := h.ke 0 (by simp) (by simp)
  have o1' := h.ke 1 (by simp) (by simp)
  have o2 := h.ve 0 (by simp) (by simp)
  have o2' := h.ve 1 (by simp) (by simp)
  simp only [List.getElem_cons_zero, List.getElem_cons_succ] at o1 o2 o1' o2'
  obtain ⟨a0, d0, rfl⟩ := own_slice o1
  obtain ⟨a1, d1, rfl⟩ := own_slice o1'
  obtain ⟨a2, d2, rfl⟩ := own_slice o2
  obtain ⟨a3, d3, rfl⟩ := own_slice o2'
  exact ⟨g, c, g', c', a0, d0, a1, d1, a2, d2, a3, d3, e1, e2, ⟨h1 0 (by simp), h1 1 (by simp), h2 0 (by simp), h2 1 (by simp)⟩, ⟨o1, o1', o2, o2'⟩, h.grp⟩
theorem own_cv {B : Nat} {w : World} {n : Nd} {l : Bool} {kv vv cv : Value} (h : OwnN B w (.agg #[.bool l, kv, vv, cv]) n) : ∃ a c, cv = .slice a n.kids.length c := by
  obtain ⟨_, _, _, _, a, c, e⟩ := h.form
  simp only [Value.agg.injEq, Array.mk.injEq, List.cons.injEq, and_true] at e
  exact ⟨a, c, e.2.2.2⟩
/-- a box of four cells -/
def Bx (p : Nat) (c : Array Value) (W : World) : Prop := W.heap[p]? = some (.cells c 37 (0, 0))
theorem Bx.up {p : Nat} {c : Array Value} {W W' : World} (h : Bx p c W) (hb : Below W.heap.size W W') : Bx p c W' := by
  unfold Bx at *
  rw [hb.block p (Array.getElem?_eq_some_iff.1 h).1]; exact h
theorem Bx.new (W : World) (c : Array Value) : Bx W.heap.size c (W.alloc (.cells c 37)) := heap_alloc_new W _
/-- an operation whose run is known, at the walk's operation -/
theorem wpl_run {P : Program} {w w' : World} {ops : Array Oper} {rest : List Oper} {o : Oper} {a : Act} {Q : Exit → Act → World → Prop} (hgd : o.guard = none) {v : Value} (hr : (execOp a.eval o).run P w = .ok (.value v) w') (h : wpList P ops Q rest (a.put o.dst v) w') : wpList P ops Q (o :: rest) a w := by
  refine wpList_plain hgd fun K hK => ?_
  unfold Oper.wp
  rw [hr]
  exact hK _ _ h
/-- the page of a leaf of one entry -/
theorem one_check {key value : List UInt8} (hk : key.length ≤ 64) (hv : value.length ≤ 128) : check ⟨true, [key], [value], []⟩ = 0 ∧ size ⟨true, [key], [value], []⟩ ≤ 512 := by
  constructor
  · have h1 : long 64 [key] = false := by simp [long]; omega
    have h2 : long 128 [value] = false := by simp [long]; omega
    have h3 : formed ⟨true, [key], [value], []⟩ = true := by simp [formed, asc]
    unfold check
    rw [h1, h2, h3]; rfl
  · simp [size, tot]; omega
theorem one_page {key value : List UInt8} (hk : key.length ≤ 64) (hv : value.length ≤ 128) :
    encE ⟨true, [key], [value], []⟩ = 0 ∧ encP ⟨true, [key], [value], []⟩ = page ⟨true, [key], [value], []⟩ ∧ (page ⟨true, [key], [value], []⟩).length = 512 ∧ kind (page ⟨true, [key], [value], []⟩) = 1 ∧ dec (page ⟨true, [key], [value], []⟩) = (⟨true, [key], [value], []⟩, 0) := by
  obtain ⟨h1, h2⟩ := one_check hk hv
  obtain ⟨h3, h4⟩ := enc_ok h1 (by omega)
  refine ⟨h3, h4, ?_, ?_, dec_page h1 h2⟩
  · have := enc_length (check_zero h1).1
    unfold page; simp; omega
  · unfold kind page enc out hdr
    simp
    rfl
end Go.Proofs.Ytfmbbpfklhkljaa
set_option linter.unusedVariables false
set_option linter.unusedSimpArgs false
namespace Go.Proofs.Ytfmbbpfklhkljaa
open Go.RowKit
set_option maxRecDepth 100000 in
set_option maxHeartbeats 4000000 in
/-- groynelaw08.LeafKeeps -/
theorem leafKeeps_any {A A' : Nat → Prop} {w : World} {v u : Value} {key value : List UInt8} (h : Bs A w v key) (h' : Bs A' w u value) : Calls Try.prog 8 #[v, u] w fun e w' => e = .returned (.bool true) ∧ Below w.heap.size w w' := by
  obtain ⟨ka, kc, rfl, _⟩ := h.at
  obtain ⟨xa, xc, rfl, _⟩ := h'.at
  have HK := Hid.mk' h.toLt
  have HX := Hid.mk' h'.toLt
  clear h h'
  go_enter Try.func8, Try.ntmps8
  go_wp2_with fail
  refine (awake8_any w).mono ?_
  rintro e w1 ⟨rfl, h1⟩
  have H1 := Hid.mk' h1
  clear h1
  by_cases hk : 64 < key.length
  · have hk' : (64 : Int) < (key.length : Int) := by omega
    go_wp2_with fail
    go_ret
    exact ⟨rfl, H1.out⟩
  · have hk' : ¬ (64 : Int) < (key.length : Int) := by omega
    by_cases hx : 128 < value.length
    · have hx' : (128 : Int) < (value.length : Int) := by omega
      go_wp2_with fail
      go_ret
      exact ⟨rfl, H1.out⟩
    · have hx' : ¬ (128 : Int) < (value.length : Int) := by omega
      have HS1 := Hid.mk' (spare_any (HK.out.up H1.out) (by omega))
      go_wp2_with fail
      refine HS1.out.mono ?_
      rintro e w2 ⟨rfl, o2, h2⟩
      have H2 := Hid.mk' (bt H1.out h2)
      have O2 := Hid.mk' o2
      have HS2 := Hid.mk' (spare_any (HX.out.up H2.out) (by omega))
      have GK := Hid.mk' (Grp.one o2)
      clear o2 h2 HS1
      go_wp2_with fail
      refine HS2.out.mono ?_
      rintro e w3 ⟨rfl, o3, h3⟩
      have H3 := Hid.mk' (bt H2.out h3)
      have O3 := Hid.mk' o3
      have O2 := Hid.mk' (Ob.keep O2.out h3 (Nat.le_refl _))
      have GV := Hid.mk' (Grp.one o3)
      clear o3 h3 HS2
      go_wp2_with fail
      have RK := own_pre (m := key.length) O2.out (by omega)
      rw [sp_take] at RK
      have RV := own_pre (m := value.length) O3.out (by omega)
      rw [sp_take] at RV
      obtain ⟨V, hV⟩ : ∃ V, V = ((w3.alloc (.cells #[.slice (some ⟨w1.heap.size, 0, none⟩) key.length (key.length + 33)] 32)).alloc (.cells #[.slice (some ⟨w2.heap.size, 0, none⟩) value.length (value.length + 33)] 32)).alloc (.cells #[.bool true, .slice (some ⟨w3.heap.size, 0, none⟩) 1 1, .slice (some ⟨w3.heap.size + 1, 0, none⟩) 1 1, .slice none 0 0] 37) := ⟨_, rfl⟩
      rw [← hV]
      have BV0 := RV.bs (by unfold lim; omega)
      obtain ⟨f1, f2, f3, f4⟩ := one_node hV (RK.bs (by unfold lim; omega)) (RV.bs (by unfold lim; omega))
      clear hV
      have RVV := Hid.mk' (BV0.up f1)
      have N0 := Hid.mk' f4
      have P0 : Hid (V.heap[w3.heap.size + 1 + 1]? = _) := f3
      have BV := Hid.mk' (bt H3.out f1)
      have HPG := Hid.mk' (one_page (key := key) (value := value) (by omega) (by omega))
      have O2V := Hid.mk' (Ob.keep O2.out f1 (Nat.le_refl _))
      have O3V := Hid.mk' (Ob.keep O3.out f1 (Nat.le_refl _))
      have SV : Hid (w3.heap.size ≤ V.heap.size) := f1.size
      generalize w3.heap.size + 1 + 1 = pn at *
      generalize w3.heap.size + 1 = pv at *
      generalize w3.heap.size = pk at *
      clear RK RV BV0 f1 f2 f3 f4
      have HE := encode_any N0.out (by simp) (by simp) (by simp)
      rw [show EncPost V ⟨true, [key], [value], []⟩ = fun e w' => ∃ v', e = .returned (.tuple #[v', .int .i64 0]) ∧ Ob 5 V.heap.size w' v' (page ⟨true, [key], [value], []⟩) ∧ Below V.heap.size V w' from by unfold EncPost; rw [HPG.out.1, HPG.out.2.1]] at HE
      obtain ⟨pg, hpg⟩ : ∃ pg, pg = page ⟨true, [key], [value], []⟩ := ⟨_, rfl⟩
      rw [← hpg] at HE HPG
      clear hpg
      refine HE.mono ?_
      rintro e w4 ⟨vp, rfl, o4, b4⟩
      clear HE
      obtain ⟨ap, cp, rfl⟩ := own_slice o4
      have O4 := Hid.mk' o4
      have G4 := Hid.mk' (Grp.one o4)
      have B4 := Hid.mk' b4
      have HD := decode_sep (o4.bs (by rw [HPG.out.2.2.1]; unfold lim; omega)) HPG.out.2.2.1 HPG.out.2.2.2.1 (by rw [HPG.out.2.2.2.2])
      rw [HPG.out.2.2.2.2] at HD
      have HD := Hid.mk' HD
      clear o4 b4
      go_wp2_with fail
      refine HD.out.mono ?_
      rintro e w5 ⟨kv, vv, ca, cc, us, xs, he, sp5, b5⟩
      clear HD
      obtain ⟨x1, c1, x2, c2, a0, d0, a1, d1, rfl, rfl, k5, o5, G5⟩ := spn1 sp5
      have he : e = .returned (.tuple #[.agg #[.bool true, .slice (some ⟨x1, 0, none⟩) 1 c1, .slice (some ⟨x2, 0, none⟩) 1 c2, .slice ca 0 cc], .int .i64 0]) := he
      subst he
      have bn5 := bt B4.out b5
      have hb5 := bt b5 (up_alloc w5 (.cells #[.bool true, .slice (some ⟨x1, 0, none⟩) 1 c1, .slice (some ⟨x2, 0, none⟩) 1 c2, .slice ca 0 cc] 37))
      have S5 := Hid.mk' hb5.size
      have hbv := bt B4.out hb5
      obtain ⟨nn0, nn1, nn2, nn3⟩ := (cells4_get (Bx.up P0.out hbv)).1
      have NX := Bx.new w5 #[.bool true, .slice (some ⟨x1, 0, none⟩) 1 c1, .slice (some ⟨x2, 0, none⟩) 1 c2, .slice ca 0 cc]
      have T1 := up_alloc w5 (.cells #[.bool true, .slice (some ⟨x1, 0, none⟩) 1 c1, .slice (some ⟨x2, 0, none⟩) 1 c2, .slice ca 0 cc] 37)
      have HW6 := with_sep (i := 0) (N0.out.up hbv) (⟨row_nil, by decide⟩ : Bs (Lt 0) _ (.slice none 0 0) []) (RVV.out.up hbv) (by simp [lim]) (by simp [lim]) (by simp)
      have k5' := (⟨cell_later T1 k5.1, cell_later T1 k5.2⟩ : _ ∧ _)
      have S5a := T1.size
      have BL5 := bt BV.out hbv
      obtain ⟨W5, hW5⟩ : ∃ W5, W5 = w5.alloc (.cells #[.bool true, .slice (some ⟨x1, 0, none⟩) 1 c1, .slice (some ⟨x2, 0, none⟩) 1 c2, .slice ca 0 cc] 37) := ⟨_, rfl⟩
      rw [← hW5] at NX T1 HW6 k5' S5a BL5 hbv S5 hb5
      have G5 := Hid.mk' G5
      have K5 := Hid.mk' k5'
      have O5 := Hid.mk' ((⟨o5.1.keep T1 (Nat.le_refl _), o5.2.keep T1 (Nat.le_refl _)⟩ : _ ∧ _))
      have X5 := Hid.mk' NX
      have B5 := Hid.mk' hbv
      have BL5 := Hid.mk' BL5
      have HW6 := Hid.mk' HW6
      have S5a := Hid.mk' S5a
      have B45 := Hid.mk' hb5
      have S5b := Hid.mk' b5.size
      clear k5 k5' o5 NX hbv T1 hb5 b5 bn5 sp5
      go_wp2_with fail
      rw [← hW5]
      clear nn0 nn1 nn2 nn3 hW5
      generalize w5.heap.size = p5 at *
      refine HW6.out.mono ?_
      rintro e w6 ⟨v6, rfl, n6, b6, kv, vv, cv, us, xs, rfl, sp6⟩
      clear HW6
      have e6 : wth ⟨true, [key], [value], []⟩ 0 [] value = ⟨true, [[], key], [value, value], []⟩ := by simp [wth]
      rw [e6] at sp6 n6
      clear e6
      obtain ⟨ca6, cc6, ec6⟩ := own_cv n6
      have ec6 : cv = .slice ca6 0 cc6 := ec6
      subst ec6
      obtain ⟨x3, c3, x4, c4, a2, d2, a3, d3, a4, d4, a5, d5, rfl, rfl, k6, o6, G6⟩ := spn2 sp6
      have T6 := up_alloc w6 (.cells #[.bool true, .slice (some ⟨x3, 0, none⟩) 2 c3, .slice (some ⟨x4, 0, none⟩) 2 c4, .slice ca6 0 cc6] 37)
      have X6 := Bx.new w6 #[.bool true, .slice (some ⟨x3, 0, none⟩) 2 c3, .slice (some ⟨x4, 0, none⟩) 2 c4, .slice ca6 0 cc6]
      have B56 := bt b6 T6
      have B6 := bt B5.out B56
      have S6 := T6.size
      have S6b := b6.size
      obtain ⟨nn0, nn1, nn2, nn3⟩ := (cells4_get (Bx.up P0.out B6)).1
      have HW7 := without_sep (i := 5) (N0.out.up B6) (by simp [lim]) (by simp)
      have K6 := Hid.mk' (⟨cell_later T6 k6.1, cell_later T6 k6.2.1, cell_later T6 k6.2.2.1, cell_later T6 k6.2.2.2⟩ : _ ∧ _ ∧ _ ∧ _)
      have O6 := Hid.mk' (⟨o6.1.keep T6 (Nat.le_refl _), o6.2.1.keep T6 (Nat.le_refl _), o6.2.2.1.keep T6 (Nat.le_refl _), o6.2.2.2.keep T6 (Nat.le_refl _)⟩ : _ ∧ _ ∧ _ ∧ _)
      have BL6 := bt BL5.out B56
      obtain ⟨W6, hW6⟩ : ∃ W6, W6 = w6.alloc (.cells #[.bool true, .slice (some ⟨x3, 0, none⟩) 2 c3, .slice (some ⟨x4, 0, none⟩) 2 c4, .slice ca6 0 cc6] 37) := ⟨_, rfl⟩
      rw [← hW6] at X6 B56 B6 HW7 S6 K6 O6 BL6
      have X6 := Hid.mk' X6
      have B56 := Hid.mk' B56
      have B6 := Hid.mk' B6
      have BL6 := Hid.mk' BL6
      have HW7 := Hid.mk' HW7
      have G6 := Hid.mk' G6
      have S6 := Hid.mk' S6
      have S6b := Hid.mk' S6b
      clear k6 o6 T6 b6 sp6 n6
      go_wp2_with fail
      rw [← hW6]
      clear nn0 nn1 nn2 nn3 hW6
      generalize w6.heap.size = p6 at *
      refine HW7.out.mono ?_
      rintro e w7 ⟨v7, rfl, n7, b7, sq7⟩
      clear HW7
      have n7' := n7
      obtain ⟨kv, vv, cv, rfl, _, _, _, _⟩ := n7'
      have n7 : OwnN W6.heap.size w7 (.agg #[.bool true, kv, vv, cv]) ⟨true, [key], [value], []⟩ := n7
      obtain ⟨us, xs, sp7⟩ := spn_of n7 sq7
      clear sq7
      obtain ⟨ca7, cc7, ec7⟩ := own_cv n7
      have ec7 : cv = .slice ca7 0 cc7 := ec7
      subst ec7
      obtain ⟨x5, c5, x6, c6, a6, d6, a7, d7, rfl, rfl, k7, o7, G7⟩ := spn1 sp7
      have T7 := up_alloc w7 (.cells #[.bool true, .slice (some ⟨x5, 0, none⟩) 1 c5, .slice (some ⟨x6, 0, none⟩) 1 c6, .slice ca7 0 cc7] 37)
      have X7 := Bx.new w7 #[.bool true, .slice (some ⟨x5, 0, none⟩) 1 c5, .slice (some ⟨x6, 0, none⟩) 1 c6, .slice ca7 0 cc7]
      have B67 := bt b7 T7
      have B7 := bt B6.out B67
      have S7 := T7.size
      have S7b := b7.size
      obtain ⟨nn0, nn1, nn2, nn3⟩ := (cells4_get (Bx.up P0.out B7)).1
      have K7 := Hid.mk' (⟨cell_later T7 k7.1, cell_later T7 k7.2⟩ : _ ∧ _)
      have O7 := Hid.mk' (⟨o7.1.keep T7 (Nat.le_refl _), o7.2.keep T7 (Nat.le_refl _)⟩ : _ ∧ _)
      have BL7 := bt BL6.out B67
      obtain ⟨W7, hW7⟩ : ∃ W7, W7 = w7.alloc (.cells #[.bool true, .slice (some ⟨x5, 0, none⟩) 1 c5, .slice (some ⟨x6, 0, none⟩) 1 c6, .slice ca7 0 cc7] 37) := ⟨_, rfl⟩
      rw [← hW7] at X7 B67 B7 S7 K7 O7 BL7
      have U7 := up_alloc W7 (.cells #[.bool true, .slice (some ⟨pk, 0, none⟩) 1 1, .slice (some ⟨pv, 0, none⟩) 1 1, .slice none 0 0, .bool true, .slice (some ⟨pk, 0, none⟩) 1 1, .slice (some ⟨pv, 0, none⟩) 1 1, .slice none 0 0] 37)
      have B7u := bt B7 U7
      have HW8 := join_sep (heap_alloc_new W7 _) (N0.out.up B7u) (N0.out.up B7u) (by simp) (by simp) (by simp) (by simp)
      have hs7 : W7.heap.size = w7.heap.size + 1 := by rw [hW7]; simp
      rw [hs7] at HW8
      clear hs7
      have X7 := Hid.mk' X7
      have B67 := Hid.mk' B67
      have B7 := Hid.mk' B7
      have U7 := Hid.mk' U7
      have BL7 := Hid.mk' BL7
      have HW8 := Hid.mk' HW8
      have G7 := Hid.mk' G7
      have S7 := Hid.mk' S7
      have S7b := Hid.mk' S7b
      clear k7 o7 T7 b7 sp7 n7 B7u
      go_wp2_with (first | refine wpl_run rfl (exec_two rfl rfl rfl) ?_)
      rw [← hW7]
      clear nn0 nn1 nn2 nn3 hW7
      generalize w7.heap.size = p7 at *
      obtain ⟨V7, hV7⟩ : ∃ V7, V7 = W7.alloc (.cells #[.bool true, .slice (some ⟨pk, 0, none⟩) 1 1, .slice (some ⟨pv, 0, none⟩) 1 1, .slice none 0 0, .bool true, .slice (some ⟨pk, 0, none⟩) 1 1, .slice (some ⟨pv, 0, none⟩) 1 1, .slice none 0 0] 37) := ⟨_, rfl⟩
      rw [← hV7] at HW8 U7 ⊢
      clear hV7
      refine HW8.out.mono ?_
      rintro e w8 ⟨v8, rfl, n8, b8, kv, vv, cv, us, xs, rfl, sp8⟩
      clear HW8
      have n8 : OwnN V7.heap.size w8 (.agg #[.bool true, kv, vv, cv]) ⟨true, [key, key], [value, value], []⟩ := n8
      have sp8 : Spn V7.heap.size ⟨true, [key, key], [value, value], []⟩ kv vv us xs w8 := sp8
      obtain ⟨ca8, cc8, ec8⟩ := own_cv n8
      have ec8 : cv = .slice ca8 0 cc8 := ec8
      subst ec8
      obtain ⟨x7, c7, x8, c8, a8, d8, a9, d9, a10, d10, a11, d11, rfl, rfl, k8, o8, G8⟩ := spn2 sp8
      have T8 := up_alloc w8 (.cells #[.bool true, .slice (some ⟨x7, 0, none⟩) 2 c7, .slice (some ⟨x8, 0, none⟩) 2 c8, .slice ca8 0 cc8] 37)
      have X8 := Bx.new w8 #[.bool true, .slice (some ⟨x7, 0, none⟩) 2 c7, .slice (some ⟨x8, 0, none⟩) 2 c8, .slice ca8 0 cc8]
      have B78 := bt (bt U7.out b8) T8
      have B8 := bt B7.out B78
      have S8 := U7.out.size
      have K8 := Hid.mk' (⟨cell_later T8 k8.1, cell_later T8 k8.2.1, cell_later T8 k8.2.2.1, cell_later T8 k8.2.2.2⟩ : _ ∧ _ ∧ _ ∧ _)
      have O8 := Hid.mk' (⟨o8.1.keep T8 (Nat.le_refl _), o8.2.1.keep T8 (Nat.le_refl _), o8.2.2.1.keep T8 (Nat.le_refl _), o8.2.2.2.keep T8 (Nat.le_refl _)⟩ : _ ∧ _ ∧ _ ∧ _)
      have BL8 := bt BL7.out B78
      have S8a := b8.size
      have S8b := T8.size
      obtain ⟨W8, hW8⟩ : ∃ W8, W8 = w8.alloc (.cells #[.bool true, .slice (some ⟨x7, 0, none⟩) 2 c7, .slice (some ⟨x8, 0, none⟩) 2 c8, .slice ca8 0 cc8] 37) := ⟨_, rfl⟩
      rw [← hW8] at X8 B78 B8 K8 O8 BL8 S8b
      have X8 := Hid.mk' X8
      have B78 := Hid.mk' B78
      have B8 := Hid.mk' B8
      have BL8 := Hid.mk' BL8
      have G8 := Hid.mk' G8
      have S8 := Hid.mk' S8
      have S8a := Hid.mk' S8a
      have S8b := Hid.mk' S8b
      have HK9 := Hid.mk' (kept_any ((O2V.out.keep B8.out (Nat.le_refl _)).bs (by rw [full_len]; unfold lim; omega)) ((HK.out.up (bt BV.out B8.out))) (by omega))
      clear k8 o8 T8 b8 sp8 n8
      go_wp2_with fail
      rw [← hW8]
      clear hW8
      generalize w8.heap.size = p8 at *
      refine HK9.out.mono ?_
      rintro e w9 ⟨rfl, b9⟩
      clear HK9
      have B9 := Hid.mk' (bt B8.out b9)
      have HX10 := Hid.mk' (kept_any ((O3V.out.keep B9.out (Nat.le_refl _)).bs (by rw [full_len]; unfold lim; omega)) ((HX.out.up (bt BV.out B9.out))) (by omega))
      have B89 := Hid.mk' b9
      clear b9
      go_wp2_with fail
      refine HX10.out.mono ?_
      rintro e w10 ⟨rfl, b10⟩
      clear HX10
      have E8 := Hid.mk' (bt B89.out b10)
      have E7 := Hid.mk' (bt B78.out E8.out)
      have E6 := Hid.mk' (bt B67.out E7.out)
      have E5 := Hid.mk' (bt B56.out E6.out)
      have EV := Hid.mk' (bt B5.out E5.out)
      clear b10
      have HAP : Hid (Calls Try.prog 43 #[.slice (some ⟨w10.heap.size, 0, none⟩) 14 14] (w10.alloc (.cells #[(.slice (some ⟨w1.heap.size, 0, none⟩) (key.length + 33) (key.length + 33)), (.slice (some ⟨w2.heap.size, 0, none⟩) (value.length + 33) (value.length + 33)), .slice ap pg.length cp, .slice a0 key.length d0, .slice a1 value.length d1, .slice a3 key.length d3, .slice a4 value.length d4, .slice a5 value.length d5, .slice a6 key.length d6, .slice a7 value.length d7, .slice a8 key.length d8, .slice a9 key.length d9, .slice a10 value.length d10, .slice a11 value.length d11] 32)).drew fun e w' => e = .returned (.bool true) ∧ Below w.heap.size (w10.alloc (.cells #[(.slice (some ⟨w1.heap.size, 0, none⟩) (key.length + 33) (key.length + 33)), (.slice (some ⟨w2.heap.size, 0, none⟩) (value.length + 33) (value.length + 33)), .slice ap pg.length cp, .slice a0 key.length d0, .slice a1 value.length d1, .slice a3 key.length d3, .slice a4 value.length d4, .slice a5 value.length d5, .slice a6 key.length d6, .slice a7 value.length d7, .slice a8 key.length d8, .slice a9 key.length d9, .slice a10 value.length d10, .slice a11 value.length d11] 32)).drew w') := by
        have E4 := Hid.mk' (bt B45.out E5.out)
        have z1 := H1.out.size
        have z2 := H2.out.size
        have z3 := BV.out.size
        have z4 : w.heap.size ≤ w4.heap.size := Nat.le_trans z3 B4.out.size
        have z5 := BL5.out.size
        have z6 := BL6.out.size
        have z7 : w.heap.size ≤ V7.heap.size := Nat.le_trans BL7.out.size U7.out.size
        have y1 : w1.heap.size < w2.heap.size := (GK.out.2 _ (List.mem_singleton.2 rfl) _ rfl).2
        have y2 : w2.heap.size < pk := (GV.out.2 _ (List.mem_singleton.2 rfl) _ rfl).2
        have y3 := SV.out
        have y4 := B4.out.size
        have y5 := S5a.out
        have y6 := S5b.out
        have y7 := S6.out
        have y8 := S6b.out
        have y9 := S7.out
        have y10 := S7b.out
        have y11 := S8.out
        have y12 := S8a.out
        have G : Grp w1.heap.size p8 ([(.slice (some ⟨w1.heap.size, 0, none⟩) (key.length + 33) (key.length + 33))] ++ ([(.slice (some ⟨w2.heap.size, 0, none⟩) (value.length + 33) (value.length + 33))] ++ ([.slice ap pg.length cp] ++ ([.slice a0 key.length d0, .slice a1 value.length d1] ++ ([.slice a3 key.length d3, .slice a4 value.length d4, .slice a5 value.length d5] ++ ([.slice a6 key.length d6, .slice a7 value.length d7] ++ [.slice a8 key.length d8, .slice a9 key.length d9, .slice a10 value.length d10, .slice a11 value.length d11])))))) :=
          GK.out.app (GV.out.app (G4.out.app (G5.out.app ((G6.out.sub (List.sublist_cons_self _ _)).app (G7.out.app G8.out (by omega) (by omega) (by omega)) (by omega) (by omega) (by omega)) (by omega) (by omega) (by omega)) (by omega) (by omega) (by omega)) (by omega) (by omega) (by omega)) (by omega) (by omega) (by omega)
        have hl : ∀ {v : Value} {l : List UInt8}, Ob 5 w.heap.size w10 v l → Ob 5 w.heap.size (w10.alloc (.cells #[(.slice (some ⟨w1.heap.size, 0, none⟩) (key.length + 33) (key.length + 33)), (.slice (some ⟨w2.heap.size, 0, none⟩) (value.length + 33) (value.length + 33)), .slice ap pg.length cp, .slice a0 key.length d0, .slice a1 value.length d1, .slice a3 key.length d3, .slice a4 value.length d4, .slice a5 value.length d5, .slice a6 key.length d6, .slice a7 value.length d7, .slice a8 key.length d8, .slice a9 key.length d9, .slice a10 value.length d10, .slice a11 value.length d11] 32)).drew v l := fun h => Ob.alloc h _
        refine apart_any (B := w.heap.size) (vs := [(.slice (some ⟨w1.heap.size, 0, none⟩) (key.length + 33) (key.length + 33)), (.slice (some ⟨w2.heap.size, 0, none⟩) (value.length + 33) (value.length + 33)), .slice ap pg.length cp, .slice a0 key.length d0, .slice a1 value.length d1, .slice a3 key.length d3, .slice a4 value.length d4, .slice a5 value.length d5, .slice a6 key.length d6, .slice a7 value.length d7, .slice a8 key.length d8, .slice a9 key.length d9, .slice a10 value.length d10, .slice a11 value.length d11]) (F := fun j => [full key, full value, pg, key, value, key, value, value, key, value, key, key, value, value].getD j []) (heap_alloc_new w10 _) ?_ (fun a b ha hb hab k e => Grp.sep G a b ha hb hab k e) ?_ (by simp) ?_
        · intro j hj
          have hj' : j < 14 := hj
          match j, hj' with
          | 0, _ => exact hl ((O2V.out.keep EV.out (Nat.le_refl _)).mono z1)
          | 1, _ => exact hl ((O3V.out.keep EV.out (Nat.le_refl _)).mono z2)
          | 2, _ => exact hl ((O4.out.keep E4.out (Nat.le_refl _)).mono z3)
          | 3, _ => exact hl ((O5.out.1.keep E5.out (Nat.le_refl _)).mono z4)
          | 4, _ => exact hl ((O5.out.2.keep E5.out (Nat.le_refl _)).mono z4)
          | 5, _ => exact hl ((O6.out.2.1.keep E6.out (Nat.le_refl _)).mono z5)
          | 6, _ => exact hl ((O6.out.2.2.1.keep E6.out (Nat.le_refl _)).mono z5)
          | 7, _ => exact hl ((O6.out.2.2.2.keep E6.out (Nat.le_refl _)).mono z5)
          | 8, _ => exact hl ((O7.out.1.keep E7.out (Nat.le_refl _)).mono z6)
          | 9, _ => exact hl ((O7.out.2.keep E7.out (Nat.le_refl _)).mono z6)
          | 10, _ => exact hl ((O8.out.1.keep E8.out (Nat.le_refl _)).mono z7)
          | 11, _ => exact hl ((O8.out.2.1.keep E8.out (Nat.le_refl _)).mono z7)
          | 12, _ => exact hl ((O8.out.2.2.1.keep E8.out (Nat.le_refl _)).mono z7)
          | 13, _ => exact hl ((O8.out.2.2.2.keep E8.out (Nat.le_refl _)).mono z7)
        · have := EV.out.size
          have h9 : w10.heap.size ≤ (w10.alloc (.cells #[(.slice (some ⟨w1.heap.size, 0, none⟩) (key.length + 33) (key.length + 33)), (.slice (some ⟨w2.heap.size, 0, none⟩) (value.length + 33) (value.length + 33)), .slice ap pg.length cp, .slice a0 key.length d0, .slice a1 value.length d1, .slice a3 key.length d3, .slice a4 value.length d4, .slice a5 value.length d5, .slice a6 key.length d6, .slice a7 value.length d7, .slice a8 key.length d8, .slice a9 key.length d9, .slice a10 value.length d10, .slice a11 value.length d11] 32)).drew.heap.size := (up_alloc w10 _).size
          exact Nat.le_trans (Nat.le_trans z3 this) h9
        · intro j
          by_cases hj : j < 14
          · have k1 : key.length ≤ 1000000 := by omega
            have k2 : value.length ≤ 1000000 := by omega
            have k3 : (full key).length ≤ 1000000 := by rw [full_len]; omega
            have k4 : (full value).length ≤ 1000000 := by rw [full_len]; omega
            have k5 : pg.length ≤ 1000000 := by rw [HPG.out.2.2.1]; decide
            match j, hj with
            | 0, _ => exact k3
            | 1, _ => exact k4
            | 2, _ => exact k5
            | 3, _ => exact k1
            | 4, _ => exact k2
            | 5, _ => exact k1
            | 6, _ => exact k2
            | 7, _ => exact k2
            | 8, _ => exact k1
            | 9, _ => exact k2
            | 10, _ => exact k1
            | 11, _ => exact k1
            | 12, _ => exact k2
            | 13, _ => exact k2
          · have : [full key, full value, pg, key, value, key, value, value, key, value, key, key, value, value].getD j [] = [] := by rw [List.getD_eq_getElem?_getD, List.getElem?_eq_none (by simp; omega)]; rfl
            show ([full key, full value, pg, key, value, key, value, value, key, value, key, key, value, value].getD j []).length ≤ 1000000
            rw [this]; simp
      obtain ⟨_, q51, q52, _⟩ := (cells4_get (X5.out.up E5.out)).1
      obtain ⟨_, q61, q62, _⟩ := (cells4_get (X6.out.up E6.out)).1
      obtain ⟨_, q71, q72, _⟩ := (cells4_get (X7.out.up E7.out)).1
      obtain ⟨_, q81, q82, _⟩ := (cells4_get (X8.out.up E8.out)).1
      have r51 := cell_later E5.out K5.out.1
      have r52 := cell_later E5.out K5.out.2
      have r61 := cell_later E6.out K6.out.2.1
      have r62 := cell_later E6.out K6.out.2.2.1
      have r63 := cell_later E6.out K6.out.2.2.2
      have r71 := cell_later E7.out K7.out.1
      have r72 := cell_later E7.out K7.out.2
      have r81 := cell_later E8.out K8.out.1
      have r82 := cell_later E8.out K8.out.2.1
      have r83 := cell_later E8.out K8.out.2.2.1
      have r84 := cell_later E8.out K8.out.2.2.2
      go_wp2_with fail
      go_still_tail 47, (by kernel_rfl)
      go_wp2_with fail
      have BEND := bt BL8.out E8.out
      refine HAP.out.mono ?_
      rintro e w11 ⟨rfl, b11⟩
      have b11 := Hid.mk' b11
      go_wp2_with fail
      go_ret
      exact ⟨rfl, ((BEND.trans ((up_alloc w10 _).mono BEND.size)).trans (drew_bl' _ _)).trans b11.out⟩
end Go.Proofs.Ytfmbbpfklhkljaa
