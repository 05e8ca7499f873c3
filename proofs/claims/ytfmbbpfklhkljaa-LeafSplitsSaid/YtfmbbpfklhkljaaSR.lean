/- groyneref08.Split. -/
import Derived.Test.YtfmbbpfklhkljaaSQ
set_option linter.unusedVariables false
set_option linter.unusedSimpArgs false
namespace Go.Proofs.Ytfmbbpfklhkljaa
open Go.RowKit
def kk (n : Nd) : Nat := bst n (n.keys.length - 2 - bh n)
def sml (n : Nd) : Bool := decide (n.keys.length < 2 + bh n)
def spA (n : Nd) : Nd := if sml n then n else prt n 0 (kk n)
def spK (n : Nd) : List UInt8 := if sml n then [] else n.keys.getD (kk n) []
def spB (n : Nd) : Nd := if sml n then none0 else prt n (kk n + bh n) n.keys.length
theorem kk_lt {n : Nd} (h : sml n = false) : 1 ≤ kk n ∧ kk n + bh n < n.keys.length := by
  have h' : ¬ n.keys.length < 2 + bh n := by simpa [sml] using h
  have := bst_rng n (n.keys.length - 2 - bh n)
  unfold kk; omega
theorem none_rn {A : Nat → Prop} {w : World} : RN A w (.agg #[.bool false, .slice none 0 0, .slice none 0 0, .slice none 0 0]) none0 := ⟨_, _, _, rfl, bss_nil, bss_nil, is_nil⟩
theorem exec_store31 {w : World} {o : Oper} {a : Act} {x y : Operand} {b : Nat} {x0 x1 x2 x3 : Value} {l : Bool} {a1 a2 a3 : Option Addr} {n1 n2 n3 c1 c2 c3 : Nat} (ho : o.op = .store 31 x y) (hx : a.eval x = .pointer (some ⟨b, 0, none⟩)) (hy : a.eval y = .agg #[.bool l, .slice a1 n1 c1, .slice a2 n2 c2, .slice a3 n3 c3])
    (h : w.heap[b]? = some (.cells #[x0, x1, x2, x3] 31 (0, 0))) : (execOp a.eval o).run Try.prog w = .ok .skip ((((w.setCell ⟨b, 0, none⟩ (.bool l)).setCell ⟨b, 1, none⟩ (.slice a1 n1 c1)).setCell ⟨b, 2, none⟩ (.slice a2 n2 c2)).setCell ⟨b, 3, none⟩ (.slice a3 n3 c3)) := by
  obtain ⟨⟨z0, z1, z2, z3⟩, zf⟩ := cells4_get h
  unfold execOp
  simp only [ho, hx, hy]
  simp [go_sem, z0, z1, z2, z3, zf]
theorem put44 {w : World} {b c B : Nat} {e : TypeId} {x0 x1 x2 x3 u0 u1 u2 u3 : Value} (y0 y1 y2 y3 z0 z1 z2 z3 : Value) (h : w.heap[b]? = some (.cells #[x0, x1, x2, x3] e (0, 0))) (k : w.heap[c]? = some (.cells #[u0, u1, u2, u3] e (0, 0))) (hbc : b ≠ c) (hB : B ≤ b) (hC : B ≤ c) :
    Below B w ((((((((w.setCell ⟨b, 0, none⟩ y0).setCell ⟨b, 1, none⟩ y1).setCell ⟨b, 2, none⟩ y2).setCell ⟨b, 3, none⟩ y3).setCell ⟨c, 0, none⟩ z0).setCell ⟨c, 1, none⟩ z1).setCell ⟨c, 2, none⟩ z2).setCell ⟨c, 3, none⟩ z3) ∧
    ((((((((w.setCell ⟨b, 0, none⟩ y0).setCell ⟨b, 1, none⟩ y1).setCell ⟨b, 2, none⟩ y2).setCell ⟨b, 3, none⟩ y3).setCell ⟨c, 0, none⟩ z0).setCell ⟨c, 1, none⟩ z1).setCell ⟨c, 2, none⟩ z2).setCell ⟨c, 3, none⟩ z3).heap[b]? = some (.cells #[y0, y1, y2, y3] e (0, 0)) ∧
    ((((((((w.setCell ⟨b, 0, none⟩ y0).setCell ⟨b, 1, none⟩ y1).setCell ⟨b, 2, none⟩ y2).setCell ⟨b, 3, none⟩ y3).setCell ⟨c, 0, none⟩ z0).setCell ⟨c, 1, none⟩ z1).setCell ⟨c, 2, none⟩ z2).setCell ⟨c, 3, none⟩ z3).heap[c]? = some (.cells #[z0, z1, z2, z3] e (0, 0)) := by
  obtain ⟨p1, p2⟩ := put4 (B := B) y0 y1 y2 y3 h hB
  have hk := ((four_wb w b y0 y1 y2 y3).block c (Array.getElem?_eq_some_iff.1 k).1 (by omega)).trans k
  generalize (((w.setCell ⟨b, 0, none⟩ y0).setCell ⟨b, 1, none⟩ y1).setCell ⟨b, 2, none⟩ y2).setCell ⟨b, 3, none⟩ y3 = W at *
  obtain ⟨q1, q2⟩ := put4 (B := B) z0 z1 z2 z3 hk hC
  exact ⟨p1.trans q1, ((four_wb W c z0 z1 z2 z3).block b (Array.getElem?_eq_some_iff.1 p2).1 (by omega)).trans p2, q2⟩
theorem bs_nil {A : Nat → Prop} {w : World} : Bs A w (.slice none 0 0) [] := ⟨row_nil, by decide⟩
/-- three blocks -/
structure Thr (w : World) (x y z : Array Value) (e : TypeId) (W : World) : Prop where
  bl : Below w.heap.size w W
  h0 : W.heap[w.heap.size]? = some (.cells x e (0, 0))
  h1 : W.heap[w.heap.size + 1]? = some (.cells y e (0, 0))
  h2 : W.heap[w.heap.size + 2]? = some (.cells z e (0, 0))
theorem Thr.up {w W W' : World} {x y z : Array Value} {e : TypeId} (h : Thr w x y z e W) (hb : Below W.heap.size W W') : Thr w x y z e W' :=
  ⟨bt h.bl hb, by rw [hb.block _ (Array.getElem?_eq_some_iff.1 h.h0).1]; exact h.h0, by rw [hb.block _ (Array.getElem?_eq_some_iff.1 h.h1).1]; exact h.h1, by rw [hb.block _ (Array.getElem?_eq_some_iff.1 h.h2).1]; exact h.h2⟩
theorem thr_new {w W : World} {x y z : Array Value} {e : TypeId} (hW : W = ((w.alloc (.cells x e)).alloc (.cells y e)).alloc (.cells z e)) : Thr w x y z e W := by
  obtain ⟨h1, h2, h3, h4⟩ := two_boxes (w := w) (x := x) (y := y) (e := e) rfl
  have hu := up_alloc ((w.alloc (.cells x e)).alloc (.cells y e)) (.cells z e)
  subst hW
  refine ⟨bt h1 hu, by rw [hu.block _ (by omega)]; exact h2, by rw [hu.block _ (by omega)]; exact h3, ?_⟩
  have := heap_alloc_new ((w.alloc (.cells x e)).alloc (.cells y e)) (.cells z e)
  rw [h4] at this; exact this
set_option maxRecDepth 100000 in
set_option maxHeartbeats 4000000 in
/-- groyneref08.Split -/
theorem rsplit_any {A : Nat → Prop} {w : World} {v : Value} {n : Nd} (h : RN A w v n) (hf : Fm n) : Calls Try.prog 31 #[v] w fun e w' => ∃ v1 v2 v3, e = .returned (.tuple #[v1, v2, v3]) ∧ RN (Lt w.heap.size) w' v1 (spA n) ∧ Bs (Lt w.heap.size) w' v2 (spK n) ∧ RN (Lt w.heap.size) w' v3 (spB n) ∧ Below w.heap.size w w' := by
  have h := h.toLt
  obtain ⟨a1, c1, a2, c2, a3, c3, rfl⟩ := h.form
  obtain ⟨_, _, _, eq0, g1, g2, g3⟩ := id h
  simp only [Value.agg.injEq, Array.mk.injEq, List.cons.injEq, and_true, true_and] at eq0
  obtain ⟨rfl, rfl, rfl⟩ := eq0
  have HN := Hid.mk' h
  have HF := Hid.mk' hf
  obtain ⟨_, _, he1, _, _, hkk⟩ := g1.at
  cases he1
  have HK := Hid.mk' hkk
  have hl200 : n.keys.length ≤ 200 := hf.sm
  clear h hf g1 g2 g3 hkk
  go_enter Try.func31, Try.ntmps31
  go_upto_if 9 with fail
  go_cut [5] (fun u wx => u = .int .i64 ((2 + bh n : Nat) : Int) ∧ Hid (Thr w #[.bool n.leaf, .slice a1 n.keys.length c1, .slice a2 n.vals.length c2, .slice a3 n.kids.length c3] #[.bool false, .slice none 0 0, .slice none 0 0, .slice none 0 0] #[.bool false, .slice none 0 0, .slice none 0 0, .slice none 0 0] 31 wx))
  case first =>
    obtain ⟨W0, hW0⟩ : ∃ W, W = ((w.alloc (.cells #[.bool n.leaf, .slice a1 n.keys.length c1, .slice a2 n.vals.length c2, .slice a3 n.kids.length c3] 31)).alloc (.cells #[.bool false, .slice none 0 0, .slice none 0 0, .slice none 0 0] 31)).alloc (.cells #[.bool false, .slice none 0 0, .slice none 0 0, .slice none 0 0] 31) := ⟨_, rfl⟩
    rw [← hW0]
    have HT := Hid.mk' (thr_new hW0)
    clear hW0
    go_wp2_with fail
    · rename_i hlf
      go_meet
      exact ⟨by rw [show bh n = 0 by unfold bh; rw [hlf]; rfl]; rfl, HT⟩
    · rename_i hlf
      go_meet
      exact ⟨by rw [show bh n = 1 by unfold bh; rw [hlf]; rfl]; rfl, HT⟩
  case rest =>
    obtain ⟨rfl, HT⟩ := hcut
    rename World => W
    obtain ⟨⟨b0, b1, b2, b3⟩, bf⟩ := cells4_get HT.out.h0
    obtain ⟨⟨d0, d1, d2, d3⟩, df⟩ := cells4_get HT.out.h1
    obtain ⟨⟨g0, g1, g2, g3⟩, gf⟩ := cells4_get HT.out.h2
    have hbh : bh n ≤ 1 := by unfold bh; split <;> omega
    cases hs : sml n with
    | true =>
      have HA : Hid (spA n = n ∧ spK n = [] ∧ spB n = none0) := by
        refine ⟨?_, ?_, ?_⟩
        · unfold spA; rw [hs]; rfl
        · unfold spK; rw [hs]; rfl
        · unfold spB; rw [hs]; rfl
      have hs' : n.keys.length < 2 + bh n := by simpa [sml] using hs
      have hs2 : (n.keys.length : Int) < ((2 + bh n : Nat) : Int) := by omega
      clear hs hs'
      go_wp2_with fail
      obtain ⟨hq, r1, r2⟩ := put44 (B := w.heap.size) (.bool n.leaf) (.slice a1 n.keys.length c1) (.slice a2 n.vals.length c2) (.slice a3 n.kids.length c3) (.bool false) (.slice none 0 0) (.slice none 0 0) (.slice none 0 0) HT.out.h1 HT.out.h2 (by omega) (by omega) (by omega)
      obtain ⟨⟨y0, y1, y2, y3⟩, yf⟩ := cells4_get r1
      obtain ⟨⟨z0, z1, z2, z3⟩, zf⟩ := cells4_get r2
      refine bodyPost_ret (v := .tuple #[.agg #[.bool n.leaf, .slice a1 n.keys.length c1, .slice a2 n.vals.length c2, .slice a3 n.kids.length c3], .slice none 0 0, .agg #[.bool false, .slice none 0 0, .slice none 0 0, .slice none 0 0]]) (by simp [results, Try.results31, go_sem, y0, y1, y2, y3, z0, z1, z2, z3]) rfl ?_
      have hb := HT.out.bl.trans hq
      obtain ⟨e1, e2, e3⟩ := HA.out
      exact ⟨_, _, _, rfl, by rw [e1]; exact HN.out.keepS (same_of hb), by rw [e2]; exact bs_nil, by rw [e3]; exact none_rn, hb⟩
    | false =>
      obtain ⟨hk1, hk2⟩ := kk_lt hs
      have HKL := Hid.mk' (kk_lt hs)
      have HKK : Hid (kk n = bst n (n.keys.length - 2 - bh n)) := rfl
      have HA : Hid (spA n = prt n 0 (kk n) ∧ spK n = n.keys.getD (kk n) [] ∧ spB n = prt n (kk n + bh n) n.keys.length) := by
        refine ⟨?_, ?_, ?_⟩
        · unfold spA; rw [hs]; rfl
        · unfold spK; rw [hs]; rfl
        · unfold spB; rw [hs]; rfl
      have hs1 : ¬ n.keys.length < 2 + bh n := by simpa [sml] using hs
      have hs2 : ¬ (n.keys.length : Int) < ((2 + bh n : Nat) : Int) := by omega
      clear hs hk1 hk2
      go_wp2_with fail
      go_loopw [6, 7] (fun k i wr => ∃ c : Nat, c ≤ n.keys.length - 2 - bh n ∧ i = .int .i64 ((2 + c : Nat) : Int) ∧ k = .int .i64 ((bst n c : Nat) : Int) ∧ Hid (Below W.heap.size W wr)) (fun _ i _ => n.keys.length + 2 - (intOf i).toNat)
      case atStart => exact ⟨0, by omega, by simp, by simp [bst], Below.refl _ _⟩
      case round =>
        obtain ⟨c, hc, rfl, rfl, HB⟩ := hrel
        have HT := Hid.mk' (HT.out.up HB.out)
        clear b0 b1 b2 b3 bf d0 d1 d2 d3 df g0 g1 g2 g3 gf
        obtain ⟨⟨b0, b1, b2, b3⟩, bf⟩ := cells4_get HT.out.h0
        have hn1 : IntKind.i64.wrap (IntKind.i64.wrap ((n.keys.length : Int) - ((2 + bh n : Nat) : Int)) + 1) = ((n.keys.length - 1 - bh n : Nat) : Int) := by rw [IntKind.wrap_i64, IntKind.wrap_i64]; omega
        by_cases hlt : 2 + c ≤ n.keys.length - 1 - bh n
        · have hlt' : ((2 + c : Nat) : Int) ≤ ((n.keys.length - 1 - bh n : Nat) : Int) := by omega
          go_wp2_with fail
          have r0 : ∀ q : Ups wr, q.nx.cell? ⟨w.heap.size, 0, none⟩ = some _ := fun q => q.cell b0
          have r1 : ∀ q : Ups wr, q.nx.cell? ⟨w.heap.size, 1, none⟩ = some _ := fun q => q.cell b1
          have r2 : ∀ q : Ups wr, q.nx.cell? ⟨w.heap.size, 2, none⟩ = some _ := fun q => q.cell b2
          have r3 : ∀ q : Ups wr, q.nx.cell? ⟨w.heap.size, 3, none⟩ = some _ := fun q => q.cell b3
          have HNR := Hid.mk' (HN.out.up HT.out.bl)
          have HR := Hid.mk' (bst_rng n c)
          have hc9 : 2 + c + bh n ≤ n.keys.length ∧ bst n c + bh n ≤ n.keys.length := by have := HR.out; omega
          have HC9 := Hid.mk' hc9
          clear hc9
          refine wp_region_free 7 Up (fun w' => ∃ q : Ups wr, w' = q.nx) (ul [(29, UL.is (.int .i64 (gr n (2 + c) : Nat))), (32, UL.is (.int .i64 (gr n (bst n c) : Nat)))]) (by kernel_rfl) (by kernel_rfl) (ul_ck _) (up_first wr) ?_
          simp only [List.take_succ_cons, List.take_zero, List.drop_succ_cons, List.drop_zero]
          refine wf_take 2 rfl ?_
          simp only [List.take_succ_cons, List.take_zero, List.drop_succ_cons, List.drop_zero]
          repeat (go_big_quiet_step (fail))
          refine wpQuiet_nil ?_
          refine wf_call (V := (UL.is (.int .i64 (gr n (2 + c) : Nat))).1) (vals := [.agg #[.bool n.leaf, .slice a1 n.keys.length c1, .slice a2 n.vals.length c2, .slice a3 n.kids.length c3], .int .i64 ((2 + c : Nat) : Int)]) Try.func77 (by kernel_rfl) rfl rfl (by kernel_rfl) (by kernel_rfl) (by kernel_rfl) (fun w1 hC hK => ?_) (fun u1 hu1 => ?_)
          · obtain ⟨q, rfl⟩ := hC; exact is_free (greater_any (HNR.out.up q.ok) HF.out HC9.out.1)
          obtain rfl : u1 = .int .i64 (gr n (2 + c) : Nat) := hu1
          simp only [Act.put, List.setIfInBounds_toArray, List.set_cons_succ, List.set_cons_zero]
          refine wf_take 2 rfl ?_
          simp only [List.take_succ_cons, List.take_zero, List.drop_succ_cons, List.drop_zero]
          repeat (go_big_quiet_step (fail))
          refine wpQuiet_nil ?_
          refine wf_call (V := (UL.is (.int .i64 (gr n (bst n c) : Nat))).1) (vals := [.agg #[.bool n.leaf, .slice a1 n.keys.length c1, .slice a2 n.vals.length c2, .slice a3 n.kids.length c3], .int .i64 ((bst n c : Nat) : Int)]) Try.func77 (by kernel_rfl) rfl rfl (by kernel_rfl) (by kernel_rfl) (by kernel_rfl) (fun w1 hC hK => ?_) (fun u1 hu1 => ?_)
          · obtain ⟨q, rfl⟩ := hC; exact is_free (greater_any (HNR.out.up q.ok) HF.out HC9.out.2)
          obtain rfl : u1 = .int .i64 (gr n (bst n c) : Nat) := hu1
          simp only [Act.put, List.setIfInBounds_toArray, List.set_cons_succ, List.set_cons_zero]
          refine wf_take 1 rfl ?_
          simp only [List.take_succ_cons, List.take_zero, List.drop_succ_cons, List.drop_zero]
          repeat (go_big_quiet_step (fail))
          refine wpQuiet_nil ?_
          intro wE hC hK
          clear hK
          obtain ⟨q, rfl⟩ := hC
          have HBE := Hid.mk' (bt HB.out q.ok)
          clear r0 r1 r2 r3 b0 b1 b2 b3 bf
          generalize q.nx = wE at *
          clear q
          have HBS : Hid (bst n (c + 1) = if gr n (2 + c) < gr n (bst n c) then 2 + c else bst n c) := by show _ = _; rw [bst, Nat.add_comm c 2]
          by_cases hg : gr n (2 + c) < gr n (bst n c)
          · have HBS := Hid.mk' (HBS.out.trans (if_pos hg))
            have hg' : ((gr n (2 + c) : Nat) : Int) < ((gr n (bst n c) : Nat) : Int) := by omega
            go_wp2_with fail
            go_roundw
            case rel => exact ⟨c + 1, by omega, by go_num, by rw [HBS.out], HBE⟩
            case measure => simp [intOf]; omega
          · have HBS := Hid.mk' (HBS.out.trans (if_neg hg))
            have hg' : ¬ ((gr n (2 + c) : Nat) : Int) < ((gr n (bst n c) : Nat) : Int) := by omega
            go_wp2_with fail
            go_roundw
            case rel => exact ⟨c + 1, by omega, by go_num, by rw [HBS.out], HBE⟩
            case measure => simp [intOf]; omega
        · have hlt' : ¬ ((2 + c : Nat) : Int) ≤ ((n.keys.length - 1 - bh n : Nat) : Int) := by omega
          have hcc : bst n c = kk n := by rw [HKK.out, show n.keys.length - 2 - bh n = c by omega]
          rw [hcc]
          clear hcc hlt hc
          have hk2 := HKL.out
          clear HKK
          generalize kk n = k at *
          go_wp2_with fail
          have hk3 : k < n.keys.length := by omega
          have hk3' : (k : Int) < (n.keys.length : Int) := by omega
          obtain ⟨g, o, x, hx0, _, hx1, hx2⟩ := HK.out k hk3
          subst hx0
          have HX := Hid.mk' hx2
          have hgl : g < w.heap.size := World.block_lt_of_cell? w ⟨g, o + k, none⟩ hx1
          have hx1r := cell_later HT.out.bl hx1
          have hgd : n.keys[k] = n.keys.getD k [] := by rw [List.getD_eq_getElem?_getD, List.getElem?_eq_getElem hk3]; rfl
          rw [hgd] at HX
          have HNR := Hid.mk' (HN.out.up HT.out.bl)
          clear hx1 hx2 hgd
          have rx : ∀ q : Kp (fun b => b = w.heap.size + 1) wr, q.nx.cell? ⟨g, o + k, none⟩ = some x := fun q => q.cell hx1r (by omega)
          have r0 : ∀ q : Kp (fun b => b = w.heap.size + 1) wr, q.nx.cell? ⟨w.heap.size, 0, none⟩ = some _ := fun q => q.cell b0 (by omega)
          have r1 : ∀ q : Kp (fun b => b = w.heap.size + 1) wr, q.nx.cell? ⟨w.heap.size, 1, none⟩ = some _ := fun q => q.cell b1 (by omega)
          have r2 : ∀ q : Kp (fun b => b = w.heap.size + 1) wr, q.nx.cell? ⟨w.heap.size, 2, none⟩ = some _ := fun q => q.cell b2 (by omega)
          have r3 : ∀ q : Kp (fun b => b = w.heap.size + 1) wr, q.nx.cell? ⟨w.heap.size, 3, none⟩ = some _ := fun q => q.cell b3 (by omega)
          refine wp_region_mix 12 (fun w' => ∃ q : Kp (fun b => b = w.heap.size + 1) wr, w' = q.nx) (by kernel_rfl) (by kernel_rfl) (kp_first _ wr) ?_
          simp only [List.take_succ_cons, List.take_zero, List.drop_succ_cons, List.drop_zero]
          refine mx_take 2 rfl ?_
          simp only [List.take_succ_cons, List.take_zero, List.drop_succ_cons, List.drop_zero]
          repeat (go_big_quiet_step (fail))
          refine wpQuiet_nil ?_
          have hd := drew_bl wr wr.heap.size
          refine mx_call (vals := [.agg #[.bool n.leaf, .slice (some ⟨g, o, none⟩) n.keys.length c1, .slice a2 n.vals.length c2, .slice a3 n.kids.length c3], .int .i64 k]) Try.func78 (by kernel_rfl) rfl rfl (by kernel_rfl) (by kernel_rfl) (front_any (HNR.out.up hd) (by omega) (fun h => by rw [HF.out.lf h]; omega) (fun h => by rw [HF.out.kd h]; omega)) (fun e wa ha => ?_)
          obtain ⟨va, rfl, ka, hba⟩ := ha
          have HBA := Hid.mk' (hd.trans hba)
          refine ⟨_, rfl, kp_mk HBA.out.size fun b hb hx => HBA.out.block b hb, ?_⟩
          simp only [Act.put, List.setIfInBounds_toArray, List.set_cons_succ, List.set_cons_zero]
          refine mx_take 7 rfl ?_
          simp only [List.take_succ_cons, List.take_zero, List.drop_succ_cons, List.drop_zero]
          repeat (go_big_quiet_step (fail))
          refine wpQuiet_nil ?_
          refine mx_call (vals := [.agg #[.bool n.leaf, .slice (some ⟨g, o, none⟩) n.keys.length c1, .slice a2 n.vals.length c2, .slice a3 n.kids.length c3], .int .i64 k]) Try.func79 (by kernel_rfl) rfl rfl (by kernel_rfl) (by kernel_rfl) (back_any (HNR.out.up HBA.out) (by omega) HF.out.lf HF.out.kd) (fun e wb hb => ?_)
          obtain ⟨vb, rfl, kb, hbb⟩ := hb
          have HBB := Hid.mk' (bt HBA.out hbb)
          refine ⟨_, rfl, kp_mk HBB.out.size fun b hb hx => HBB.out.block b hb, ?_⟩
          simp only [Act.put, List.setIfInBounds_toArray, List.set_cons_succ, List.set_cons_zero]
          obtain ⟨e1, d1, e2, d2, e3, d3, rfl⟩ := ka.form
          obtain ⟨f1, i1, f2, i2, f3, i3, rfl⟩ := kb.form
          have HTB := Hid.mk' (HT.out.up HBB.out)
          have KA := Hid.mk' (ka.up hbb)
          have KB := Hid.mk' kb
          have XB := Hid.mk' (HX.out.up (bt HT.out.bl HBB.out))
          refine mx_store rfl (by kernel_rfl) (exec_store31 rfl rfl rfl HTB.out.h1) (kp_mk (Nat.le_trans HBB.out.size (four_wb _ _ _ _ _ _).size) fun b hb hx => ((four_wb _ _ _ _ _ _).block b (Nat.lt_of_lt_of_le hb HBB.out.size) hx).trans (HBB.out.block b hb)) ?_
          simp only [Act.put, wpMix]
          have hz1 := HTB.out.h1
          have hz2 := ((four_wb wb (w.heap.size + 1) (.bool (prt n 0 k).leaf) (.slice e1 (prt n 0 k).keys.length d1) (.slice e2 (prt n 0 k).vals.length d2) (.slice e3 (prt n 0 k).kids.length d3)).block (w.heap.size + 2) (Array.getElem?_eq_some_iff.1 HTB.out.h2).1 (by omega)).trans HTB.out.h2
          obtain ⟨hq, y1⟩ := put4 (B := w.heap.size) (.bool (prt n 0 k).leaf) (.slice e1 (prt n 0 k).keys.length d1) (.slice e2 (prt n 0 k).vals.length d2) (.slice e3 (prt n 0 k).kids.length d3) hz1 (by omega)
          have HBX := Hid.mk' (HTB.out.bl.trans hq)
          have HQ := Hid.mk' hq
          have HY1 := Hid.mk' y1
          have HZ2 := Hid.mk' hz2
          clear hz1 hq y1 hz2 rx r0 r1 r2 r3 b0 b1 b2 b3 bf hd ka kb hbb hba
          generalize ((((wb.setCell ⟨w.heap.size + 1, 0, none⟩ (.bool (prt n 0 k).leaf)).setCell ⟨w.heap.size + 1, 1, none⟩ (.slice e1 (prt n 0 k).keys.length d1)).setCell ⟨w.heap.size + 1, 2, none⟩ (.slice e2 (prt n 0 k).vals.length d2)).setCell ⟨w.heap.size + 1, 3, none⟩ (.slice e3 (prt n 0 k).kids.length d3)) = X at *
          have KA := Hid.mk' (KA.out.keepS (same_of HQ.out))
          have KB := Hid.mk' (KB.out.keepS (same_of HQ.out))
          have XB := Hid.mk' (XB.out.keepS (same_of HQ.out))
          obtain ⟨lA, hlA⟩ : ∃ b, b = (prt n 0 k).leaf := ⟨_, rfl⟩
          obtain ⟨lB, hlB⟩ : ∃ b, b = (prt n (k + bh n) n.keys.length).leaf := ⟨_, rfl⟩
          rw [← hlA] at KA HY1 ⊢
          rw [← hlB] at KB ⊢
          clear hlA hlB HQ HTB HBB HBA HX HNR hx1r hgl
          generalize (prt n 0 k).keys.length = l1 at *
          generalize (prt n 0 k).vals.length = l2 at *
          generalize (prt n 0 k).kids.length = l3 at *
          generalize (prt n (k + bh n) n.keys.length).keys.length = l4 at *
          generalize (prt n (k + bh n) n.keys.length).vals.length = l5 at *
          generalize (prt n (k + bh n) n.keys.length).kids.length = l6 at *
          obtain ⟨⟨z0, z1, z2, z3⟩, zf⟩ := cells4_get HZ2.out
          go_wp2_with fail
          have hw1 := four_wb X (w.heap.size + 2) (.bool lB) (.slice f1 l4 i1) (.slice f2 l5 i2) (.slice f3 l6 i3)
          have hy1 := (hw1.block (w.heap.size + 1) (Array.getElem?_eq_some_iff.1 HY1.out).1 (by omega)).trans HY1.out
          obtain ⟨hq, hy2⟩ := put4 (B := w.heap.size) (.bool lB) (.slice f1 l4 i1) (.slice f2 l5 i2) (.slice f3 l6 i3) HZ2.out (by omega)
          obtain ⟨⟨p0, p1, p2, p3⟩, pf⟩ := cells4_get hy1
          obtain ⟨⟨s0, s1, s2, s3⟩, sf⟩ := cells4_get hy2
          refine bodyPost_ret (v := .tuple #[.agg #[.bool lA, .slice e1 l1 d1, .slice e2 l2 d2, .slice e3 l3 d3], x, .agg #[.bool lB, .slice f1 l4 i1, .slice f2 l5 i2, .slice f3 l6 i3]]) (by simp [results, Try.results31, go_sem, p0, p1, p2, p3, s0, s1, s2, s3]) rfl ?_
          obtain ⟨q1, q2, q3⟩ := HA.out
          exact ⟨_, _, _, rfl, by rw [q1]; exact KA.out.keepS (same_of hq), by rw [q2]; exact XB.out.keepS (same_of hq), by rw [q3]; exact KB.out.keepS (same_of hq), HBX.out.trans hq⟩
end Go.Proofs.Ytfmbbpfklhkljaa
