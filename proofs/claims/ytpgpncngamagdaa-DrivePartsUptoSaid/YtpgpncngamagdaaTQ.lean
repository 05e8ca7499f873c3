/- groynelaw04.DriveParts. -/
import Derived.Test.YtpgpncngamagdaaTX
import Derived.Test.YtpgpncngamagdaaTO
import Derived.Test.YtpgpncngamagdaaPN
set_option linter.unusedVariables false
set_option linter.unusedSimpArgs false
namespace Go.Proofs.Ytpgpncngamagdaa
open Go.RowKit
attribute [local go_sem ↓] Go.wp_at_zero Go.wp_at_succ
/-- how things stand in the first loop -/
def Pone (w0 : World) (b x T N : Nat) (wr : World) : Prop := ∃ (d : Dm) (r : Rd) (M D A : Nat → Prop) (vb : Array Value), Sl w0 b x d r M D A vb wr ∧ (∀ k, A k → k < wr.heap.size) ∧ Sd T N d r
theorem As.none (A : Nat → Prop) (w : World) : As A w (.slice none 0 0) [] := ⟨[], rfl, Row.voidN (sz := 5) (fun _ => rfl), fun q hq => (List.not_mem_nil hq).elim, Nat.zero_le _⟩
theorem play_is {M D A Aa : Nat → Prop} {w : World} {b : Nat} {v u : Value} {d : Dm} {r : Rd} {T N : Nat} (a : Ac) (h : DrIs M D w b d) (hr : Rf A w v r) (hu : Bs Aa w u a.da) (hA : ∀ k, A k → ¬ M k ∧ k ≠ b) (hAa : ∀ k, Aa k → ¬ M k ∧ k ≠ b) (hs : Sd T N d r) (hN : N ≤ 30000) (hT : T + a.da.length ≤ lim) (hin : Ain a) :
    Calls Try.prog 27 #[.pointer (some ⟨b, 0, none⟩), v, .agg #[.int .i64 a.kind, .string ⟨a.nm.toArray⟩, .string ⟨a.tn.toArray⟩, .int .i64 a.n, u]] w (PyPost M D A Aa w b (plD d a) (plR r a) true) := by
  obtain ⟨he, T', hT', hg⟩ := hs
  have PL := play_any (Aa := Aa) a h hr hu hA hAa he hg hg ⟨hN, hN⟩ ⟨by omega, by omega⟩ hin.1 hin.2.1 ⟨hin.2.2.1, hin.2.2.2⟩ (.inr (by omega))
  rw [show (plE d a == plF r a) = true by rw [(he.play hg.tle a).1]; simp] at PL
  exact PL
theorem looks_is {M D A : Nat → Prop} {w : World} {b : Nat} {v : Value} {d : Dm} {r : Rd} {T N : Nat} (n p : By) (h : DrIs M D w b d) (hr : Rf A w v r) (hs : Sd T N d r) (hN : N ≤ 30000) (hT : T ≤ lim) (hn : n.length ≤ maxLen) (hp : p.length ≤ maxLen) :
    Calls Try.prog 28 #[.pointer (some ⟨b, 0, none⟩), v, .string ⟨n.toArray⟩, .string ⟨p.toArray⟩] w fun E w' => E = .returned (.bool true) ∧ Below w.heap.size w w' := by
  obtain ⟨he, T', hT', hg⟩ := hs
  exact looks_any n p h hr he hg hN (by omega) hn hp
theorem exec_store51 {w : World} {o : Oper} {a : Act} {x y : Operand} {b : Nat} {x0 x1 x2 x3 x4 : Value} {a0 a1 : Option Addr} {n0 c0 n1 c1 : Nat} {i j : Int} {e : Bool} (ho : o.op = .store 51 x y) (hx : a.eval x = .pointer (some ⟨b, 0, none⟩)) (hy : a.eval y = .agg #[.slice a0 n0 c0, .slice a1 n1 c1, .int .i64 i, .int .i64 j, .bool e])
    (h : w.heap[b]? = some (.cells #[x0, x1, x2, x3, x4] 51 (0, 0))) : (execOp a.eval o).run Try.prog w = .ok .skip (((((w.setCell ⟨b, 0, none⟩ (.slice a0 n0 c0)).setCell ⟨b, 1, none⟩ (.slice a1 n1 c1)).setCell ⟨b, 2, none⟩ (.int .i64 i)).setCell ⟨b, 3, none⟩ (.int .i64 j)).setCell ⟨b, 4, none⟩ (.bool e)) := by
  obtain ⟨z0, z1, z2, z3, z4⟩ := box5 h
  have zf : ∀ j, w.frozen? ⟨b, j, none⟩ = false := fun j => by simp only [World.frozen?, h]; simp
  unfold execOp
  simp only [ho, hx, hy]
  simp [go_sem, z0, z1, z2, z3, z4, zf]
theorem exec_bs1 {w : World} {o : Oper} {a : Act} {x : Operand} {s : ByteArray} (ho : o.op = .buildSlice 60 1 #[(0, x)]) (hx : a.eval x = .string s) :
    (execOp a.eval o).run Try.prog w = .ok (.value (.slice (some ⟨w.heap.size, 0, none⟩) 1 1)) (w.alloc (.cells #[.string s] 9)) := by
  unfold execOp
  simp only [ho, List.map_toArray, List.map_cons, List.map_nil, hx]
  simp [go_sem]
theorem three_ss {w : World} (x y z : By) : Ss (Lt (w.heap.size + 1)) (w.alloc (.cells #[.string ⟨x.toArray⟩, .string ⟨y.toArray⟩, .string ⟨z.toArray⟩] 9)) (.slice (some ⟨w.heap.size, 0, none⟩) 3 3) [x, y, z] := by
  refine ⟨⟨rfl, _, _, rfl, Nat.le_refl _, by simp, fun j u hj => ⟨_, _, rfl, Nat.lt_succ_self _, ?_⟩⟩, by unfold lim; simp⟩
  match j, hj with
  | 0, hj => simp [sv] at hj; subst hj; simp
  | 1, hj => simp [sv] at hj; subst hj; simp
  | 2, hj => simp [sv] at hj; subst hj; simp
theorem lsD_ab {d : Dm} {x : By} (h : x ∈ lsD d [97, 98]) : ∃ t, x = 97 :: 98 :: t := by
  unfold lsD at h
  split at h
  · cases h
  · unfold nms at h
    have h2 := (List.mem_filter.1 h).2
    unfold pfx at h2
    simp only [Bool.and_eq_true, decide_eq_true_eq, beq_iff_eq] at h2
    obtain ⟨h3, h4⟩ := h2
    match x, h3, h4 with
    | a :: b :: t, _, h4 =>
      simp at h4
      exact ⟨t, by rw [h4.1, h4.2]⟩
theorem lsD_nm {T N : Nat} {d : Dm} {r : Rd} (h : Sd T N d r) (p : By) : ∀ s ∈ lsD d p, s.length ≤ maxLen := by
  obtain ⟨he, T', _, hg⟩ := h
  have hF : Fg T' (cur r) := Qg.last hg.qg
  intro s hs
  unfold lsD at hs
  split at hs
  · cases hs
  · rw [he.seen] at hs
    unfold nms at hs
    obtain ⟨t, ht, rfl⟩ := List.mem_map.1 (List.mem_filter.1 hs).1
    exact hF.2.2 t ht
theorem sd_len {T N : Nat} {d : Dm} {r : Rd} (h : Sd T N d r) (hN : N ≤ 1000) : d.seen.length ≤ 1000 := by
  obtain ⟨he, T', _, hg⟩ := h
  rw [he.seen]
  have := all_len hg.qg
  have := hg.len
  unfold cur
  omega
theorem sd_tot {T N : Nat} {d : Dm} {r : Rd} (h : Sd T N d r) (hT : T ≤ lim) : tot d.seen ≤ lim := by
  obtain ⟨he, T', hT', hg⟩ := h
  rw [he.seen]
  have hF : Fg T' (cur r) := Qg.last hg.qg
  exact Nat.le_trans hF.2.1 (by omega)
theorem sd_list {T N : Nat} {d : Dm} {r : Rd} {A : Nat → Prop} {w : World} {v : Value} (h : Sd T N d r) (hN : N ≤ 30000) (p : By) (hr : Rf A w v r) (hp : p.length ≤ maxLen) : Calls Try.prog 42 #[v, .string ⟨p.toArray⟩] w (RlPost w (lsD d p)) := by
  obtain ⟨he, T', hT', hg⟩ := h
  rw [ls_same he]
  exact rlist_any p hr (hg.rok (by omega)) hp
theorem smd_end (l : List Ac) (k : Nat) (h : l.length ≤ k) : smd (l.take (k + 1)) = smd (l.take k) := by
  rw [List.take_of_length_le h, List.take_of_length_le (by omega)]
theorem kp_more {g g' : Nat → Prop} {V w' : World} (hg : ∀ k, g k → g' k) (h : ∃ q : Kp g V, w' = q.nx) : ∃ q : Kp g' V, w' = q.nx := by
  obtain ⟨q, rfl⟩ := h
  exact kp_mk q.sz fun b hb hn => q.ok b hb fun h => hn (hg b h)
theorem kp_wb {X : Nat → Prop} {V w' : World} (h : Wb X V.drew w') : ∃ q : Kp X V, w' = q.nx := kp_mk h.size fun b hb hn => h.block b hb hn
theorem ups_cell {V : World} {b o : Nat} {u : Value} (h : V.cell? ⟨b, o, none⟩ = some u) (q : Ups V) : q.nx.cell? ⟨b, o, none⟩ = some u := cell_later q.ok h
set_option maxRecDepth 100000 in
set_option maxHeartbeats 16000000 in
/-- groynelaw04.DriveParts -/
theorem driveParts_any {A0 : Nat → Prop} {w : World} {v v2 : Value} {l : List Ac} {ll : List (List Ac)} (room : Int) (hroom : room ≤ 9223372036854775807) (h : As A0 w v l) (h2 : Ass A0 w v2 ll) (hs : smd l ≤ 2000000) (hs2 : ∀ x ∈ ll, smd x ≤ 2000000) :
    Calls Try.prog 9 #[.int .i64 room, v, v2] w fun e w' => e = .returned (.bool true) ∧ Below w.heap.size w w' := by
  obtain ⟨va, vc, rfl, hx1⟩ := h.at
  obtain ⟨ta, tc, rfl, hx2, hx3, hx4, HTT⟩ := h2.at
  clear hx1 hx2 hx3
  have HA := Hid.mk' h.andLt
  have HS := Hid.mk' hs
  have HS2 := Hid.mk' hs2
  have HRM := Hid.mk' hroom
  have HT := Hid.mk' HTT
  have hll : (ll.length : Int) ≤ 140737488351232 := by unfold lim at hx4; omega
  clear h h2 hs hs2 HTT hx4
  go_enter Try.func9, Try.ntmps9
  go_wp2_with fail
  refine (awake_any w).mono ?_
  rintro E w1 ⟨rfl, b1⟩
  have B1 := Hid.mk' b1
  clear b1
  go_upto_if 25 with fail
  go_cut [7, 8] (fun q7 q8 wx => ∃ (L R : List Ac) (la ra : Option Addr) (lc rc : Nat), q7 = .slice la L.length lc ∧ q8 = .slice ra R.length rc ∧ Hid (As (fun k => A0 k ∧ k < w.heap.size) w q7 L) ∧ Hid (As (fun k => A0 k ∧ k < w.heap.size) w q8 R) ∧ Hid (Below w.heap.size w wx) ∧ Hid (smd L ≤ 2000000 ∧ smd R ≤ 2000000))
  case first =>
    by_cases hk : 1 < ll.length
    · have hk' : (1 : Int) < (ll.length : Int) := by omega
      obtain ⟨bb, oo, u0, rfl, hA0, c0, hb0⟩ := HT.out 0 (by omega)
      obtain ⟨_, _, u1, e1, hA1, c1, hb1⟩ := HT.out 1 (by omega)
      cases e1
      have c0 : w1.cell? ⟨bb, oo, none⟩ = some u0 := (B1.out.cell (p := ⟨bb, oo, none⟩) (World.block_lt_of_cell? w ⟨bb, oo, none⟩ c0)).trans c0
      have c1 : w1.cell? ⟨bb, oo + 1, none⟩ = some u1 := (B1.out.cell (p := ⟨bb, oo + 1, none⟩) (World.block_lt_of_cell? w ⟨bb, oo + 1, none⟩ c1)).trans c1
      have hs0 := HS2.out _ (List.getElem_mem (show 0 < ll.length by omega))
      have hs1 := HS2.out _ (List.getElem_mem (show 1 < ll.length by omega))
      have HSM : Hid (smd ll[0] ≤ 2000000 ∧ smd ll[1] ≤ 2000000) := ⟨hs0, hs1⟩
      have hb0 := Hid.mk' hb0.andLt
      have hb1 := Hid.mk' hb1.andLt
      clear HS2 hs0 hs1
      generalize ll[0] = lo at *
      generalize ll[1] = lb at *
      obtain ⟨xa, xc, rfl, hx⟩ := hb0.out.at
      obtain ⟨ya, yc, rfl, hy⟩ := hb1.out.at
      clear hx hy HT
      have h3' : (0 : Int) < (ll.length : Int) := by omega
      have h4' : (1 : Int) < (ll.length : Int) := by omega
      have h3'' : 0 < ll.length := by omega
      have h4'' : 1 < ll.length := by omega
      go_wp2_with fail
      go_big_region
      go_wp2_with fail
      go_meet
      exact ⟨lo, lb, xa, ya, xc, yc, rfl, rfl, hb0, hb1, Hid.mk' B1.out.drew, HSM⟩
    · have hk' : ¬ (1 : Int) < (ll.length : Int) := by omega
      go_wp2_with fail
      go_meet
      exact ⟨[], [], none, none, 0, 0, rfl, rfl, As.none _ _, As.none _ _, B1, by show 0 ≤ _ ∧ 0 ≤ _; omega⟩
  case rest =>
  obtain ⟨LL, RR, la, ra, lc, rc, rfl, rfl, HLL, HRR, BX, HSM⟩ := hcut
  rename World => w4
  clear B1 HT HS2 hll
  go_wp2_with fail
  refine (new_any w4 room).mono ?_
  rintro E w5 ⟨rfl, b5, hd5⟩
  have HD5 := Hid.mk' hd5
  have B5 := Hid.mk' b5
  clear b5 hd5
  go_wp2_with fail
  refine (rnew_any room).mono ?_
  rintro E w6 ⟨v6, rfl, hr6, b6⟩
  have HR6 := Hid.mk' hr6
  have B6 := Hid.mk' b6
  obtain ⟨vs, vq, rfl, hts, hos⟩ := hr6
  obtain ⟨sa, sn, sc, rfl⟩ : ∃ a n c, vs = Value.slice a n c := (let ⟨a, c, e, _⟩ := hts.at; ⟨a, _, c, e⟩)
  obtain ⟨qa, qn, qc, rfl⟩ : ∃ a n c, vq = Value.slice a n c := (let ⟨a, c, e, _⟩ := hos.at; ⟨a, _, c, e⟩)
  clear b6 hts hos
  go_wp2_with fail
  obtain ⟨W, hW⟩ : ∃ W, W = w6.alloc (.cells #[.slice sa sn sc, .slice qa qn qc, .int .i64 (max 0 room), .int .i64 (-1), .bool false] 51) := ⟨_, rfl⟩
  have HSL : Hid (Pone w w4.heap.size w6.heap.size 0 0 W) := by
    have s5 := B5.out.size
    have s6 := B6.out.size
    have s4 := BX.out.size
    have hup := up_alloc w6 (.cells #[.slice sa sn sc, .slice qa qn qc, .int .i64 (max 0 room), .int .i64 (-1), .bool false] 51)
    have hb4 : w4.heap.size < w5.heap.size := by obtain ⟨_, _, _, hx, _⟩ := HD5.out.ex; exact (Array.getElem?_eq_some_iff.1 hx).1
    refine ⟨_, _, fun _ => False, fun _ => False, fun k => ((False ∨ w5.heap.size ≤ k) ∧ k < w6.heap.size), #[.slice sa sn sc, .slice qa qn qc, .int .i64 (max 0 room), .int .i64 (-1), .bool false], ⟨?_, ?_, ?_, ?_, fun k hk => False.elim hk, fun k hk => False.elim hk, fun k hk => ⟨fun h => h, ?_, ?_⟩, ⟨?_, ?_⟩, ?_⟩, fun k hk => ?_, Eqv.new room, 0, Nat.le_refl _, Gd.new room HRM.out⟩
    · rw [hW]; exact bt (bt (bt BX.out B5.out) B6.out) hup
    · rw [hW]; exact (HD5.out.below B6.out).below hup
    · rw [hW]; exact (HR6.out.andLt).up hup
    · rw [hW]; exact heap_alloc_new w6 _
    · have := hk.1.resolve_left (fun h => h); omega
    · have := hk.2; omega
    · omega
    · omega
    · omega
    · have := hk.2; rw [hW]; simp; omega
  rw [← hW]
  have HBW : Hid (Below w.heap.size w W) := by rw [hW]; exact bt (bt (bt BX.out B5.out) B6.out) (up_alloc _ _)
  clear hW
  obtain ⟨b, hb⟩ : ∃ b, b = w4.heap.size := ⟨_, rfl⟩
  obtain ⟨x, hx⟩ : ∃ x, x = w6.heap.size := ⟨_, rfl⟩
  rw [← hb, ← hx] at HSL ⊢
  clear hb hx HD5 HR6 B5 B6 BX
  have hcut := cut_any 30 (HA.out.up HBW.out) (by decide)
  rw [show ((30 : Nat) : Int) = 30 from rfl] at hcut
  refine hcut.mono ?_
  rintro E w7 ⟨⟨u7, rfl, hu7⟩, rfl⟩
  obtain ⟨L, hL⟩ : ∃ L, L = l.take 30 := ⟨_, rfl⟩
  rw [← hL] at hu7
  obtain ⟨a7, c7, rfl, hx7⟩ := hu7.at
  have hln : (L.length : Int) ≤ 30 := by rw [hL, List.length_take]; omega
  have HLT : Hid (As (fun k => A0 k ∧ k < w.heap.size) W (.slice a7 L.length c7) L) := hu7
  have HFS : Hid (∀ k, k ≤ L.length → smd (L.take k) ≤ 2000000 ∧ ∀ h : k < L.length, smd (L.take (k + 1)) = smd (L.take k) + L[k].da.length) := fun k hk => ⟨Nat.le_trans (smd_take_le L k) (by rw [hL]; exact Nat.le_trans (smd_take_le l 30) HS.out), fun h => smd_take L k h⟩
  clear hL
  clear hx7 hu7 hcut HA HS HRM
  go_wp2_with fail
  go_loopw [39] (fun i wr => ∃ k : Nat, k ≤ L.length ∧ i = .int .i64 k ∧ Hid (Pone w b x (smd (L.take k)) k wr)) (fun i _ => L.length - (intOf i).toNat)
  case atStart => exact ⟨0, by omega, rfl, HSL⟩
  case round =>
  clear HSL
  obtain ⟨k, hk, rfl, HP⟩ := hrel
  obtain ⟨d, r, M, D, A, vb, hsl, hab, hsd⟩ := HP.out
  have HSl := Hid.mk' hsl
  have HAB := Hid.mk' hab
  have HSd := Hid.mk' hsd
  clear hsl hab hsd
  by_cases hlt : k < L.length
  · have hlt' : (k : Int) < (L.length : Int) := by omega
    obtain ⟨_, _, ea, _, _, _, H⟩ := (HLT.out.keepS (w' := wr) (fun j hj => (HSl.out.bl.block j hj.2).trans (HBW.out.block j hj.2).symm)).at
    cases ea
    obtain ⟨ab, ao, u, rfl, ⟨d0, d1, d2, d3, d4⟩, hu, hin⟩ := H k hlt
    obtain ⟨ua, uc, rfl, hxu⟩ := hu.at
    have HS1 := (HFS.out k (by omega)).1
    have HS2 := (HFS.out k (by omega)).2 hlt
    have HS3 := (HFS.out (k + 1) (by omega)).1
    have HFIT : Hid (smd (L.take (k + 1)) = smd (L.take k) + L[k].da.length ∧ smd (L.take k) ≤ 2000000 ∧ smd (L.take (k + 1)) ≤ 2000000) := ⟨HS2, HS1, HS3⟩
    clear H hxu HS1 HS2 HS3
    have HU := Hid.mk' hu
    have HIN := Hid.mk' hin
    clear hu hin
    generalize L[k] = a at *
    obtain ⟨vs1, vq1, e1, t1, o1⟩ := HSl.out.rf
    obtain ⟨xs1, xn1, xq1, rfl⟩ : ∃ a n c, vs1 = Value.slice a n c := (let ⟨a, c, e, _⟩ := t1.at; ⟨a, _, c, e⟩)
    obtain ⟨ys1, yn1, yq1, rfl⟩ : ∃ a n c, vq1 = Value.slice a n c := (let ⟨a, c, e, _⟩ := o1.at; ⟨a, _, c, e⟩)
    cases e1
    clear t1 o1
    go_upto_region 10 with fail
    obtain ⟨wq, hwq⟩ : ∃ wq, wq = wr.alloc (.cells #[.int .i64 a.kind, .string ⟨a.nm.toArray⟩, .string ⟨a.tn.toArray⟩, .int .i64 a.n, .slice ua a.da.length uc] 55) := ⟨_, rfl⟩
    have hbq : Below wr.heap.size wr wq := by rw [hwq]; exact up_alloc _ _
    have haq : wq.heap[wr.heap.size]? = some (.cells #[.int .i64 a.kind, .string ⟨a.nm.toArray⟩, .string ⟨a.tn.toArray⟩, .int .i64 a.n, .slice ua a.da.length uc] 55 (0, 0)) := by rw [hwq]; exact heap_alloc_new wr _
    rw [← hwq]
    clear hwq d0 d1 d2 d3 d4
    have HBQ := Hid.mk' hbq
    have HSq := Hid.mk' (HSl.out.up hbq)
    obtain ⟨c0, c1, c2, c3, c4⟩ := box5 HSq.out.bx
    obtain ⟨d0, d1, d2, d3, d4⟩ := box5 haq
    clear hbq haq
    go_wp2_with fail
    have hlim : lim = 140737488351232 := rfl
    have HPL := Hid.mk' (play_is (Aa := fun j => A0 j ∧ j < w.heap.size) a HSq.out.dr HSq.out.rf (HU.out.up HBQ.out) (fun j hj => ⟨(HSq.out.hA j hj).1, (HSq.out.hA j hj).2.1⟩) (fun j hj => ⟨fun hm => by have := (HSq.out.hM j hm).1; omega, by have := HSq.out.hb.1; omega⟩) HSd.out (by omega) (by have := HFIT.out; omega) HIN.out)
    clear hlim
    refine HPL.out.mono ?_
    rintro E2 w2 ⟨v2, rfl, hw2, M2, D2, A2, hd2, hr2, iM, iD, iA, hA2⟩
    obtain ⟨vs2, vq2, rfl, t2, o2⟩ := id hr2
    obtain ⟨xs2, xn2, xq2, rfl⟩ : ∃ a n c, vs2 = Value.slice a n c := (let ⟨a, c, e, _⟩ := t2.at; ⟨a, _, c, e⟩)
    obtain ⟨ys2, yn2, yq2, rfl⟩ : ∃ a n c, vq2 = Value.slice a n c := (let ⟨a, c, e, _⟩ := o2.at; ⟨a, _, c, e⟩)
    have hxq := HSq.out.blt.2
    have hbx2 : w2.heap[x]? = _ := (hw2.block x hxq (fun hx => hx.elim (fun h => HSq.out.hb.2 h.symm) fun h => (HSq.out.hM _ h).2 rfl)).trans HSq.out.bx
    obtain ⟨W9, hW9, h9, hb9⟩ := stored5 hbx2 (.slice xs2 xn2 xq2) (.slice ys2 yn2 yq2) (.int .i64 (plR r a).room) (.int .i64 (plR r a).armed) (.bool (plR r a).dead)
    have HS9 := Hid.mk' (HSq.out.play (fun j hj => hj.2) hw2 hd2 hr2 iM iD iA hA2 hb9 h9 (ok := true) (E := .returned (.bool true)))
    have HA9 : Hid (∀ k, A2 k → k < W9.heap.size) := fun k hk => Nat.lt_of_lt_of_le (hA2 k hk).2.2 hb9.size
    have HD9 := Hid.mk' (HSd.out.play a HIN.out.1 HIN.out.2.1 HU.out.2 HIN.out.2.2.2 (by have := HFIT.out; have hlim : lim = 140737488351232 := rfl; omega))
    rw [← HFIT.out.1] at HD9
    have HW9 := Hid.mk' hW9
    clear c0 c1 c2 c3 c4 d0 d1 d2 d3 d4 HPL hw2 hd2 hr2 iM iD iA hA2 t2 o2 hb9 h9 hW9 hxq HFIT HU HIN HSl HSq HSd HAB HP HBQ
    obtain ⟨c0, c1, c2, c3, c4⟩ := box5 hbx2
    have hfx : ∀ j, w2.frozen? ⟨x, j, none⟩ = false := fun j => by simp only [World.frozen?, hbx2]; simp
    clear hbx2
    go_upto_region 11 with fail
    rw [← HW9.out]
    clear c0 c1 c2 c3 c4 hfx HW9
    go_wp2_with fail
    go_roundw
    case rel => exact ⟨k + 1, by omega, by go_num, _, _, _, _, _, _, HS9.out, HA9.out, HD9.out⟩
    case measure => simp [intOf]; omega
  · obtain rfl : k = L.length := by omega
    have hlt' : ¬ (L.length : Int) < (L.length : Int) := by omega
    rw [List.take_length] at HSd
    have HSd := Hid.mk' (HSd.out.mono (T2 := 2000000) (N2 := 30) (by have := (HFS.out L.length (Nat.le_refl _)).1; rw [List.take_length] at this; exact this) (by omega))
    clear HP HFS HLT hlt hlt' hk
    obtain ⟨vs1, vq1, e1, t1, o1⟩ := HSl.out.rf
    obtain ⟨xs1, xn1, xq1, rfl⟩ : ∃ a n c, vs1 = Value.slice a n c := (let ⟨a, c, e, _⟩ := t1.at; ⟨a, _, c, e⟩)
    obtain ⟨ys1, yn1, yq1, rfl⟩ : ∃ a n c, vq1 = Value.slice a n c := (let ⟨a, c, e, _⟩ := o1.at; ⟨a, _, c, e⟩)
    cases e1
    clear t1 o1
    have HTW : Hid (∀ w', Below wr.heap.size wr w' → Calls Try.prog 16 #[.pointer (some ⟨b, 0, none⟩)] w' (TwinPost M D w' d)) := fun w' hw' => twin_any (HSl.out.dr.below hw') (by have := HSd.out.1; have h2 := HSd.out.2.choose_spec.2.len; rw [this.queue]; omega)
    obtain ⟨c0, c1, c2, c3, c4⟩ := box5 HSl.out.bx
    have r0 : ∀ q : Ups wr, q.nx.cell? ⟨x, 0, none⟩ = some _ := ups_cell c0
    have r1 : ∀ q : Ups wr, q.nx.cell? ⟨x, 1, none⟩ = some _ := ups_cell c1
    have r2 : ∀ q : Ups wr, q.nx.cell? ⟨x, 2, none⟩ = some _ := ups_cell c2
    have r3 : ∀ q : Ups wr, q.nx.cell? ⟨x, 3, none⟩ = some _ := ups_cell c3
    have r4 : ∀ q : Ups wr, q.nx.cell? ⟨x, 4, none⟩ = some _ := ups_cell c4
    clear c0 c1 c2 c3 c4
    go_upto_region 12 with fail
    refine wp_region_free 5 Up (fun w' => ∃ q : Ups wr, w' = q.nx) (ul [(52, UL.twin wr.heap.size D d), (14, UL.zbox wr.heap.size)]) (by kernel_rfl) (by kernel_rfl) (ul_ck _) (up_first wr) ?_
    simp only [List.take_succ_cons, List.take_zero, List.drop_succ_cons, List.drop_zero]
    refine wf_take 1 rfl ?_
    simp only [List.take_succ_cons, List.take_zero, List.drop_succ_cons, List.drop_zero]
    repeat (go_big_quiet_step (fail))
    refine wpQuiet_nil ?_
    refine wf_call (V := (UL.twin wr.heap.size D d).1) (vals := [.pointer (some ⟨b, 0, none⟩)]) Try.func16 (by kernel_rfl) rfl rfl (by kernel_rfl) (by kernel_rfl) (by kernel_rfl) (fun w1 hC _ => ?_) (fun u1 ho1 => ?_)
    · obtain ⟨p, rfl⟩ := hC
      refine (HTW.out p.nx p.ok).mono ?_
      rintro E2 w2 ⟨rfl, hb2, M2, D2, hM2, hD2, hdr2⟩
      exact ⟨_, rfl, hb2, ⟨_, rfl⟩, _, rfl, p.ok.size, M2, D2, fun k hk => Nat.le_trans p.ok.size (hM2 k hk), fun k hk => (hD2 k hk).imp id fun h => Nat.le_trans p.ok.size h, hdr2⟩
    obtain ⟨b2, rfl⟩ := ho1
    simp only [Act.put, List.setIfInBounds_toArray, List.set_cons_succ, List.set_cons_zero]
    refine wf_take 1 rfl ?_
    simp only [List.take_succ_cons, List.take_zero, List.drop_succ_cons, List.drop_zero]
    repeat (go_big_quiet_step (fail))
    refine wpQuiet_nil ?_
    refine wf_make (V := (UL.zbox wr.heap.size).1) (by kernel_rfl) (by kernel_rfl) (fun w1 hC _ => ?_) (fun u5 ho5 => ?_)
    · obtain ⟨p, rfl⟩ := hC
      exact ⟨_, _, exec_alloc51 rfl, up_alloc _ _, ⟨_, rfl⟩, ⟨_, rfl, p.ok.size, heap_alloc_new _ _⟩⟩
    obtain ⟨x2, rfl⟩ := ho5
    simp only [Act.put, List.setIfInBounds_toArray, List.set_cons_succ, List.set_cons_zero]
    refine wf_take 1 rfl ?_
    simp only [List.take_succ_cons, List.take_zero, List.drop_succ_cons, List.drop_zero]
    repeat (go_big_quiet_step (fail))
    refine wpQuiet_nil ?_
    intro we hC hK
    have k1 := hK 52 _ _ trivial (.inl (.inr ⟨rfl, rfl⟩)) rfl
    have k2 := hK 14 _ _ trivial (.inr ⟨rfl, rfl⟩) rfl
    obtain ⟨_, e1, hb2, M2, D2, hM2, hD2, hdr2⟩ := k1
    cases e1
    obtain ⟨_, e2, hx2, hz2⟩ := k2
    cases e2
    obtain ⟨p, hp⟩ := hC
    have HPW : Hid (Below wr.heap.size wr we) := by rw [hp]; exact p.ok
    have hz2' : we.heap[x2]? = some (.cells #[.slice none 0 0, .slice none 0 0, .int .i64 0, .int .i64 0, .bool false] 51 (0, 0)) := hz2
    obtain ⟨W9, hW9, h9, hb9⟩ := stored5 hz2' (.slice xs1 xn1 xq1) (.slice ys1 yn1 yq1) (.int .i64 r.room) (.int .i64 r.armed) (.bool r.dead)
    have HQ0 : Hid (Pq w b x b2 x2 2000000 30 2000000 30 W9) := ⟨_, _, _, _, _, _, _, _, _, _, _, _, Pr.made2 HSl.out HAB.out HPW.out hM2 hD2 hdr2 hb2 hx2 hz2 hb9 h9, HSd.out, HSd.out⟩
    obtain ⟨c0, c1, c2, c3, c4⟩ := box5 hz2'
    have hfx : ∀ j, we.frozen? ⟨x2, j, none⟩ = false := fun j => by simp only [World.frozen?, hz2']; simp
    have HW9 := Hid.mk' hW9
    clear hK hp hz2 hz2' hW9 h9 hb9 hM2 hD2 hdr2 hb2 hx2 r0 r1 r2 r3 r4 HTW HSl HAB HSd HPW
    clear p
    go_upto_region 13 with fail
    rw [← HW9.out]
    clear c0 c1 c2 c3 c4 hfx HW9
    go_wp2_with fail
    go_loopw [15] (fun i wr => ∃ k : Nat, k ≤ 30 ∧ i = .int .i64 k ∧ Hid (Pq w b x b2 x2 (2000000 + smd (LL.take k)) (30 + k) (2000000 + smd (RR.take k)) (30 + k) wr)) (fun i _ => 30 - (intOf i).toNat)
    case atStart => exact ⟨0, by omega, rfl, HQ0⟩
    case round =>
    rename World => wv
    clear HQ0
    obtain ⟨k, hk, rfl, HQ⟩ := hrel
    by_cases hk30 : k < 30
    · have hk30' : (k : Int) < 30 := by omega
      go_upto_if 61 with fail
      go_cut [16] (fun q16 wx => Hid (Pq w b x b2 x2 (2000000 + smd (LL.take (k + 1))) (30 + (k + 1)) (2000000 + smd (RR.take k)) (30 + k) wx))
      case first =>
        by_cases hlt : k < LL.length
        · have hlt' : (k : Int) < (LL.length : Int) := by omega
          obtain ⟨d1, d2, r1, r2, M1, D1, A1, M2, D2, A2, vb1, vb2, hpr, hs1, hs2⟩ := HQ.out
          have HPR := Hid.mk' hpr
          have HS1 := Hid.mk' hs1
          have HS2 := Hid.mk' hs2
          clear hpr hs1 hs2 HQ
          obtain ⟨_, _, ea, hx1, _, hx3, H⟩ := HLL.out.at
          cases ea
          have hln : (LL.length : Int) ≤ 140737488351232 := by unfold lim at hx3; omega
          obtain ⟨ab, ao, u, rfl, ⟨d0, d1', d2', d3, d4⟩, hu, hin⟩ := H k hlt
          obtain ⟨ua, uc, rfl, hxu⟩ := hu.at
          have hab : ab < w.heap.size := World.block_lt_of_cell? w ⟨ab, ao + k * 5, none⟩ d0
          have HFIT : Hid (smd (LL.take (k + 1)) = smd (LL.take k) + LL[k].da.length ∧ smd (LL.take k) ≤ 2000000 ∧ smd (LL.take (k + 1)) ≤ 2000000) := ⟨smd_take _ _ hlt, Nat.le_trans (smd_take_le _ _) HSM.out.1, Nat.le_trans (smd_take_le _ _) HSM.out.1⟩
          clear H hxu hx1 hx3
          have HU := Hid.mk' hu
          have HIN := Hid.mk' hin
          clear hu hin
          generalize LL[k] = a at *
          obtain ⟨vs1, vq1, e1, t1, o1⟩ := HPR.out.s1.rf
          obtain ⟨xs1, xn1, xq1, rfl⟩ : ∃ a n c, vs1 = Value.slice a n c := (let ⟨a, c, e, _⟩ := t1.at; ⟨a, _, c, e⟩)
          obtain ⟨ys1, yn1, yq1, rfl⟩ : ∃ a n c, vq1 = Value.slice a n c := (let ⟨a, c, e, _⟩ := o1.at; ⟨a, _, c, e⟩)
          cases e1
          clear t1 o1
          have HBW1 := Hid.mk' HPR.out.s1.bl
          obtain ⟨c0, c1, c2, c3, c4⟩ := box5 HPR.out.s1.bx
          have ngx : ¬ (x = b ∨ M1 x) := fun h => h.elim (fun h => HPR.out.s1.hb.2 h.symm) fun h => (HPR.out.s1.hM _ h).2 rfl
          have nga : ¬ (ab = b ∨ M1 ab) := fun h => h.elim (fun h => by have := HPR.out.s1.hb.1; omega) fun h => by have := (HPR.out.s1.hM _ h).1; omega
          have r0 : ∀ q : Kp (fun j => j = b ∨ M1 j) wv, q.nx.cell? ⟨x, 0, none⟩ = some _ := fun q => q.cell c0 ngx
          have r1' : ∀ q : Kp (fun j => j = b ∨ M1 j) wv, q.nx.cell? ⟨x, 1, none⟩ = some _ := fun q => q.cell c1 ngx
          have r2' : ∀ q : Kp (fun j => j = b ∨ M1 j) wv, q.nx.cell? ⟨x, 2, none⟩ = some _ := fun q => q.cell c2 ngx
          have r3 : ∀ q : Kp (fun j => j = b ∨ M1 j) wv, q.nx.cell? ⟨x, 3, none⟩ = some _ := fun q => q.cell c3 ngx
          have r4 : ∀ q : Kp (fun j => j = b ∨ M1 j) wv, q.nx.cell? ⟨x, 4, none⟩ = some _ := fun q => q.cell c4 ngx
          have s0 : ∀ q : Kp (fun j => j = b ∨ M1 j) wv, q.nx.cell? ⟨ab, ao + k * 5, none⟩ = some _ := fun q => q.cell ((HBW1.out.cell (p := ⟨ab, ao + k * 5, none⟩) hab).trans d0) nga
          have s1 : ∀ q : Kp (fun j => j = b ∨ M1 j) wv, q.nx.cell? ⟨ab, ao + k * 5 + 1, none⟩ = some _ := fun q => q.cell ((HBW1.out.cell (p := ⟨ab, ao + k * 5 + 1, none⟩) hab).trans d1') nga
          have s2 : ∀ q : Kp (fun j => j = b ∨ M1 j) wv, q.nx.cell? ⟨ab, ao + k * 5 + 2, none⟩ = some _ := fun q => q.cell ((HBW1.out.cell (p := ⟨ab, ao + k * 5 + 2, none⟩) hab).trans d2') nga
          have s3 : ∀ q : Kp (fun j => j = b ∨ M1 j) wv, q.nx.cell? ⟨ab, ao + k * 5 + 3, none⟩ = some _ := fun q => q.cell ((HBW1.out.cell (p := ⟨ab, ao + k * 5 + 3, none⟩) hab).trans d3) nga
          have s4 : ∀ q : Kp (fun j => j = b ∨ M1 j) wv, q.nx.cell? ⟨ab, ao + k * 5 + 4, none⟩ = some _ := fun q => q.cell ((HBW1.out.cell (p := ⟨ab, ao + k * 5 + 4, none⟩) hab).trans d4) nga
          have HD1 := Hid.mk' d1'
          have HBX := Hid.mk' HPR.out.s1.bx
          clear c0 c1 c2 c3 c4 d0 d1' d2' d3 d4
          go_wp2_with fail
          refine NE.wp_region_nix 12 (fun w' => ∃ q : Kp (fun j => j = b ∨ M1 j) wv, w' = q.nx) (fun w' => ∃ q : Kp (fun j => j = b ∨ M1 j ∨ j = x) wv, w' = q.nx) (by kernel_rfl) (by kernel_rfl) (fun _ h => kp_more (fun j hj => hj.imp id .inl) h) (kp_first _ wv) ?_
          simp only [List.take_succ_cons, List.take_zero, List.drop_succ_cons, List.drop_zero]
          refine NE.nx_pure rfl rfl ?_
          go_big_quiet_step (fail)
          refine wpQuiet_nil ?_
          refine NE.nx_load rfl rfl ?_
          go_big_quiet_step (fail)
          refine wpQuiet_nil ?_
          refine NE.nx_pure rfl rfl ?_
          go_big_quiet_step (fail)
          refine wpQuiet_nil ?_
          refine NE.nx_pure rfl rfl ?_
          go_big_quiet_step (fail)
          refine wpQuiet_nil ?_
          refine NE.nx_load rfl rfl ?_
          go_big_quiet_step (fail)
          refine wpQuiet_nil ?_
          refine NE.nx_load rfl rfl ?_
          go_big_quiet_step (fail)
          refine wpQuiet_nil ?_
          have HPd := Hid.mk' (HPR.out.up (drew_blx wv _))
          have hlim : lim = 140737488351232 := rfl
          refine NE.nx_call (vals := [.pointer (some ⟨b, 0, none⟩), .agg #[.slice xs1 xn1 xq1, .slice ys1 yn1 yq1, .int .i64 r1.room, .int .i64 r1.armed, .bool r1.dead], .agg #[.int .i64 a.kind, .string ⟨a.nm.toArray⟩, .string ⟨a.tn.toArray⟩, .int .i64 a.n, .slice ua a.da.length uc]]) Try.func27 (by kernel_rfl) rfl rfl (by kernel_rfl) (by kernel_rfl) (play_is (Aa := fun j => A0 j ∧ j < w.heap.size) a HPd.out.s1.dr HPd.out.s1.rf ((HU.out.keepS (w' := wv) (fun j hj => HBW1.out.block j hj.2)).up (drew_blx wv _)) (fun j hj => ⟨(HPd.out.s1.hA j hj).1, (HPd.out.s1.hA j hj).2.1⟩) (fun j hj => ⟨fun hm => by have := (HPd.out.s1.hM j hm).1; omega, by have := HPd.out.s1.hb.1; omega⟩) HS1.out (by omega) (by have := HFIT.out; omega) HIN.out) (fun E3 w3 hp3 => ?_)
          obtain ⟨v3, rfl, hw3, M3, D3, A3, hd3, hr3, iM, iD, iA, hA3⟩ := hp3
          obtain ⟨vs2, vq2, rfl, t2, o2⟩ := id hr3
          obtain ⟨xs2, xn2, xq2, rfl⟩ : ∃ a n c, vs2 = Value.slice a n c := (let ⟨a, c, e, _⟩ := t2.at; ⟨a, _, c, e⟩)
          obtain ⟨ys2, yn2, yq2, rfl⟩ : ∃ a n c, vq2 = Value.slice a n c := (let ⟨a, c, e, _⟩ := o2.at; ⟨a, _, c, e⟩)
          refine ⟨_, rfl, kp_wb hw3, ?_⟩
          simp only [Act.put, List.setIfInBounds_toArray, List.set_cons_succ, List.set_cons_zero]
          have hxq := HPd.out.s1.blt.2
          have hbx2 : w3.heap[x]? = _ := (hw3.block x hxq ngx).trans HPd.out.s1.bx
          obtain ⟨W9, hW9, h9, hb9⟩ := stored5 hbx2 (.slice xs2 xn2 xq2) (.slice ys2 yn2 yq2) (.int .i64 (plR r1 a).room) (.int .i64 (plR r1 a).armed) (.bool (plR r1 a).dead)
          have HP9 := Hid.mk' (HPd.out.play (fun j hj => hj.2) hw3 hd3 hr3 iM iD iA hA3 hb9 h9)
          have HD9 := Hid.mk' (HS1.out.play a HIN.out.1 HIN.out.2.1 HU.out.2 HIN.out.2.2.2 (by have := HFIT.out; omega))
          have HK9 : Hid (∃ q : Kp (fun j => j = b ∨ M1 j ∨ j = x) wv, W9 = q.nx) := kp_wb ((hw3.mono fun j hj => hj.imp id .inl).trans (hb9.mono fun j hj => .inr (.inr hj)))
          have HW9 := Hid.mk' hW9
          refine NE.nx_pure rfl rfl ?_
          go_big_quiet_step (fail)
          refine wpQuiet_nil ?_
          refine NE.nx_pure rfl rfl ?_
          go_big_quiet_step (fail)
          refine wpQuiet_nil ?_
          refine NE.nx_pure rfl rfl ?_
          go_big_quiet_step (fail)
          refine wpQuiet_nil ?_
          refine NE.nx_store rfl rfl (by kernel_rfl) (exec_store51 rfl rfl rfl hbx2) (by rw [← HW9.out]; exact HK9.out) ?_
          simp only [Act.put, List.setIfInBounds_toArray, List.set_cons_succ, List.set_cons_zero]
          rw [← HW9.out]
          refine NE.nx_pure rfl rfl ?_
          go_big_quiet_step (fail)
          refine wpQuiet_nil ?_
          simp only [NE.wpNix]
          clear hlim hbx2 hW9 h9 hb9 hw3 hd3 hr3 iM iD iA hA3 t2 o2 hxq HK9 HW9 r0 r1' r2' r3 r4 s0 s1 s2 s3 s4 HPd HPR HS1 HBX ngx nga
          obtain ⟨c0, c1, c2, c3, c4⟩ := box5 HP9.out.s1.bx
          have hbl9 := HP9.out.s1.bl
          have t0 : ∀ q : Ups W9, q.nx.cell? ⟨x, 0, none⟩ = some _ := ups_cell c0
          have t1 : ∀ q : Ups W9, q.nx.cell? ⟨x, 1, none⟩ = some _ := ups_cell c1
          have t2 : ∀ q : Ups W9, q.nx.cell? ⟨x, 2, none⟩ = some _ := ups_cell c2
          have t3 : ∀ q : Ups W9, q.nx.cell? ⟨x, 3, none⟩ = some _ := ups_cell c3
          have t4 : ∀ q : Ups W9, q.nx.cell? ⟨x, 4, none⟩ = some _ := ups_cell c4
          have t5 : ∀ q : Ups W9, q.nx.cell? ⟨ab, ao + k * 5 + 1, none⟩ = some _ := ups_cell ((hbl9.cell (p := ⟨ab, ao + k * 5 + 1, none⟩) hab).trans HD1.out)
          have HLK : Hid (∀ q : Ups W9, Calls Try.prog 28 #[.pointer (some ⟨b, 0, none⟩), .agg #[.slice xs2 xn2 xq2, .slice ys2 yn2 yq2, .int .i64 (plR r1 a).room, .int .i64 (plR r1 a).armed, .bool (plR r1 a).dead], .string ⟨a.nm.toArray⟩, .string ⟨#[]⟩] q.nx fun E w' => E = .returned (.bool true) ∧ Below q.nx.heap.size q.nx w') := by
            intro q
            have hlim : lim = 140737488351232 := rfl
            exact looks_is a.nm [] (HP9.out.s1.dr.below q.ok) (HP9.out.s1.rf.up q.ok) HD9.out (by omega) (by have := HFIT.out; omega) HIN.out.1 (Nat.zero_le _)
          clear c0 c1 c2 c3 c4 hbl9
          go_wp2_with fail
          refine wp_region_up (by kernel_rfl) (by kernel_rfl) ?_
          repeat (go_big_quiet_step (exact ups_call (HLK.out _)))
          refine wpQuiet_nil ?_
          intro _ hw'
          obtain ⟨q, hw''⟩ := hw'
          subst hw''
          have HQ9 := Hid.mk' (Pq.up ⟨_, _, _, _, _, _, _, _, _, _, _, _, HP9.out, HD9.out, HS2.out⟩ q.ok)
          generalize q.nx = w7 at *
          clear q
          clear t0 t1 t2 t3 t4 t5 HLK HP9 HD9 HS2 HD1
          go_wp2_with fail
          go_meet
          exact HQ9.out.mono (by have := HFIT.out.1; omega) (by omega) (Nat.le_refl _) (Nat.le_refl _)
        · have hlt' : ¬ (k : Int) < (LL.length : Int) := by omega
          go_wp2_with fail
          go_meet
          exact HQ.out.mono (by rw [smd_end LL k (by omega)]; exact Nat.le_refl _) (by omega) (Nat.le_refl _) (Nat.le_refl _)
      case rest =>
      clear HQ
      have HQ := Hid.mk' hcut.out
      clear hcut
      rename World => wv
      by_cases hlt : k < RR.length
      · have hlt' : (k : Int) < (RR.length : Int) := by omega
        obtain ⟨d1, d2, r1, r2, M1, D1, A1, M2, D2, A2, vb1, vb2, hpr, hs1, hs2⟩ := HQ.out.symm
        have HPR := Hid.mk' hpr
        have HS1 := Hid.mk' hs1
        have HS2 := Hid.mk' hs2
        clear hpr hs1 hs2 HQ
        obtain ⟨_, _, ea, hx1, _, hx3, H⟩ := HRR.out.at
        cases ea
        have hln : (RR.length : Int) ≤ 140737488351232 := by unfold lim at hx3; omega
        obtain ⟨ab, ao, u, rfl, ⟨d0, d1', d2', d3, d4⟩, hu, hin⟩ := H k hlt
        obtain ⟨ua, uc, rfl, hxu⟩ := hu.at
        have hab : ab < w.heap.size := World.block_lt_of_cell? w ⟨ab, ao + k * 5, none⟩ d0
        have HFIT : Hid (smd (RR.take (k + 1)) = smd (RR.take k) + RR[k].da.length ∧ smd (RR.take k) ≤ 2000000 ∧ smd (RR.take (k + 1)) ≤ 2000000) := ⟨smd_take _ _ hlt, Nat.le_trans (smd_take_le _ _) HSM.out.2, Nat.le_trans (smd_take_le _ _) HSM.out.2⟩
        clear H hxu hx1 hx3
        have HU := Hid.mk' hu
        have HIN := Hid.mk' hin
        clear hu hin
        generalize RR[k] = a at *
        obtain ⟨vs1, vq1, e1, t1, o1⟩ := HPR.out.s1.rf
        obtain ⟨xs1, xn1, xq1, rfl⟩ : ∃ a n c, vs1 = Value.slice a n c := (let ⟨a, c, e, _⟩ := t1.at; ⟨a, _, c, e⟩)
        obtain ⟨ys1, yn1, yq1, rfl⟩ : ∃ a n c, vq1 = Value.slice a n c := (let ⟨a, c, e, _⟩ := o1.at; ⟨a, _, c, e⟩)
        cases e1
        clear t1 o1
        have HBW1 := Hid.mk' HPR.out.s1.bl
        obtain ⟨c0, c1, c2, c3, c4⟩ := box5 HPR.out.s1.bx
        have ngx : ¬ (x2 = b2 ∨ M1 x2) := fun h => h.elim (fun h => HPR.out.s1.hb.2 h.symm) fun h => (HPR.out.s1.hM _ h).2 rfl
        have nga : ¬ (ab = b2 ∨ M1 ab) := fun h => h.elim (fun h => by have := HPR.out.s1.hb.1; omega) fun h => by have := (HPR.out.s1.hM _ h).1; omega
        have r0 : ∀ q : Kp (fun j => j = b2 ∨ M1 j) wv, q.nx.cell? ⟨x2, 0, none⟩ = some _ := fun q => q.cell c0 ngx
        have r1' : ∀ q : Kp (fun j => j = b2 ∨ M1 j) wv, q.nx.cell? ⟨x2, 1, none⟩ = some _ := fun q => q.cell c1 ngx
        have r2' : ∀ q : Kp (fun j => j = b2 ∨ M1 j) wv, q.nx.cell? ⟨x2, 2, none⟩ = some _ := fun q => q.cell c2 ngx
        have r3 : ∀ q : Kp (fun j => j = b2 ∨ M1 j) wv, q.nx.cell? ⟨x2, 3, none⟩ = some _ := fun q => q.cell c3 ngx
        have r4 : ∀ q : Kp (fun j => j = b2 ∨ M1 j) wv, q.nx.cell? ⟨x2, 4, none⟩ = some _ := fun q => q.cell c4 ngx
        have s0 : ∀ q : Kp (fun j => j = b2 ∨ M1 j) wv, q.nx.cell? ⟨ab, ao + k * 5, none⟩ = some _ := fun q => q.cell ((HBW1.out.cell (p := ⟨ab, ao + k * 5, none⟩) hab).trans d0) nga
        have s1 : ∀ q : Kp (fun j => j = b2 ∨ M1 j) wv, q.nx.cell? ⟨ab, ao + k * 5 + 1, none⟩ = some _ := fun q => q.cell ((HBW1.out.cell (p := ⟨ab, ao + k * 5 + 1, none⟩) hab).trans d1') nga
        have s2 : ∀ q : Kp (fun j => j = b2 ∨ M1 j) wv, q.nx.cell? ⟨ab, ao + k * 5 + 2, none⟩ = some _ := fun q => q.cell ((HBW1.out.cell (p := ⟨ab, ao + k * 5 + 2, none⟩) hab).trans d2') nga
        have s3 : ∀ q : Kp (fun j => j = b2 ∨ M1 j) wv, q.nx.cell? ⟨ab, ao + k * 5 + 3, none⟩ = some _ := fun q => q.cell ((HBW1.out.cell (p := ⟨ab, ao + k * 5 + 3, none⟩) hab).trans d3) nga
        have s4 : ∀ q : Kp (fun j => j = b2 ∨ M1 j) wv, q.nx.cell? ⟨ab, ao + k * 5 + 4, none⟩ = some _ := fun q => q.cell ((HBW1.out.cell (p := ⟨ab, ao + k * 5 + 4, none⟩) hab).trans d4) nga
        have HD1 := Hid.mk' d1'
        have HBX := Hid.mk' HPR.out.s1.bx
        clear c0 c1 c2 c3 c4 d0 d1' d2' d3 d4
        go_wp2_with fail
        refine NE.wp_region_nix 12 (fun w' => ∃ q : Kp (fun j => j = b2 ∨ M1 j) wv, w' = q.nx) (fun w' => ∃ q : Kp (fun j => j = b2 ∨ M1 j ∨ j = x2) wv, w' = q.nx) (by kernel_rfl) (by kernel_rfl) (fun _ h => kp_more (fun j hj => hj.imp id .inl) h) (kp_first _ wv) ?_
        simp only [List.take_succ_cons, List.take_zero, List.drop_succ_cons, List.drop_zero]
        refine NE.nx_pure rfl rfl ?_
        go_big_quiet_step (fail)
        refine wpQuiet_nil ?_
        refine NE.nx_load rfl rfl ?_
        go_big_quiet_step (fail)
        refine wpQuiet_nil ?_
        refine NE.nx_pure rfl rfl ?_
        go_big_quiet_step (fail)
        refine wpQuiet_nil ?_
        refine NE.nx_pure rfl rfl ?_
        go_big_quiet_step (fail)
        refine wpQuiet_nil ?_
        refine NE.nx_load rfl rfl ?_
        go_big_quiet_step (fail)
        refine wpQuiet_nil ?_
        refine NE.nx_load rfl rfl ?_
        go_big_quiet_step (fail)
        refine wpQuiet_nil ?_
        have HPd := Hid.mk' (HPR.out.up (drew_blx wv _))
        have hlim : lim = 140737488351232 := rfl
        refine NE.nx_call (vals := [.pointer (some ⟨b2, 0, none⟩), .agg #[.slice xs1 xn1 xq1, .slice ys1 yn1 yq1, .int .i64 r1.room, .int .i64 r1.armed, .bool r1.dead], .agg #[.int .i64 a.kind, .string ⟨a.nm.toArray⟩, .string ⟨a.tn.toArray⟩, .int .i64 a.n, .slice ua a.da.length uc]]) Try.func27 (by kernel_rfl) rfl rfl (by kernel_rfl) (by kernel_rfl) (play_is (Aa := fun j => A0 j ∧ j < w.heap.size) a HPd.out.s1.dr HPd.out.s1.rf ((HU.out.keepS (w' := wv) (fun j hj => HBW1.out.block j hj.2)).up (drew_blx wv _)) (fun j hj => ⟨(HPd.out.s1.hA j hj).1, (HPd.out.s1.hA j hj).2.1⟩) (fun j hj => ⟨fun hm => by have := (HPd.out.s1.hM j hm).1; omega, by have := HPd.out.s1.hb.1; omega⟩) HS1.out (by omega) (by have := HFIT.out; omega) HIN.out) (fun E3 w3 hp3 => ?_)
        obtain ⟨v3, rfl, hw3, M3, D3, A3, hd3, hr3, iM, iD, iA, hA3⟩ := hp3
        obtain ⟨vs2, vq2, rfl, t2, o2⟩ := id hr3
        obtain ⟨xs2, xn2, xq2, rfl⟩ : ∃ a n c, vs2 = Value.slice a n c := (let ⟨a, c, e, _⟩ := t2.at; ⟨a, _, c, e⟩)
        obtain ⟨ys2, yn2, yq2, rfl⟩ : ∃ a n c, vq2 = Value.slice a n c := (let ⟨a, c, e, _⟩ := o2.at; ⟨a, _, c, e⟩)
        refine ⟨_, rfl, kp_wb hw3, ?_⟩
        simp only [Act.put, List.setIfInBounds_toArray, List.set_cons_succ, List.set_cons_zero]
        have hxq := HPd.out.s1.blt.2
        have hbx2 : w3.heap[x2]? = _ := (hw3.block x2 hxq ngx).trans HPd.out.s1.bx
        obtain ⟨W9, hW9, h9, hb9⟩ := stored5 hbx2 (.slice xs2 xn2 xq2) (.slice ys2 yn2 yq2) (.int .i64 (plR r1 a).room) (.int .i64 (plR r1 a).armed) (.bool (plR r1 a).dead)
        have HP9 := Hid.mk' (HPd.out.play (fun j hj => hj.2) hw3 hd3 hr3 iM iD iA hA3 hb9 h9)
        have HD9 := Hid.mk' (HS1.out.play a HIN.out.1 HIN.out.2.1 HU.out.2 HIN.out.2.2.2 (by have := HFIT.out; omega))
        have HK9 : Hid (∃ q : Kp (fun j => j = b2 ∨ M1 j ∨ j = x2) wv, W9 = q.nx) := kp_wb ((hw3.mono fun j hj => hj.imp id .inl).trans (hb9.mono fun j hj => .inr (.inr hj)))
        have HW9 := Hid.mk' hW9
        refine NE.nx_pure rfl rfl ?_
        go_big_quiet_step (fail)
        refine wpQuiet_nil ?_
        refine NE.nx_pure rfl rfl ?_
        go_big_quiet_step (fail)
        refine wpQuiet_nil ?_
        refine NE.nx_pure rfl rfl ?_
        go_big_quiet_step (fail)
        refine wpQuiet_nil ?_
        refine NE.nx_store rfl rfl (by kernel_rfl) (exec_store51 rfl rfl rfl hbx2) (by rw [← HW9.out]; exact HK9.out) ?_
        simp only [Act.put, List.setIfInBounds_toArray, List.set_cons_succ, List.set_cons_zero]
        rw [← HW9.out]
        refine NE.nx_pure rfl rfl ?_
        go_big_quiet_step (fail)
        refine wpQuiet_nil ?_
        simp only [NE.wpNix]
        clear hlim hbx2 hW9 h9 hb9 hw3 hd3 hr3 iM iD iA hA3 t2 o2 hxq HK9 HW9 r0 r1' r2' r3 r4 s0 s1 s2 s3 s4 HPd HPR HS1 HBX ngx nga
        obtain ⟨c0, c1, c2, c3, c4⟩ := box5 HP9.out.s1.bx
        have hbl9 := HP9.out.s1.bl
        have t0 : ∀ q : Ups W9, q.nx.cell? ⟨x2, 0, none⟩ = some _ := ups_cell c0
        have t1 : ∀ q : Ups W9, q.nx.cell? ⟨x2, 1, none⟩ = some _ := ups_cell c1
        have t2 : ∀ q : Ups W9, q.nx.cell? ⟨x2, 2, none⟩ = some _ := ups_cell c2
        have t3 : ∀ q : Ups W9, q.nx.cell? ⟨x2, 3, none⟩ = some _ := ups_cell c3
        have t4 : ∀ q : Ups W9, q.nx.cell? ⟨x2, 4, none⟩ = some _ := ups_cell c4
        have t5 : ∀ q : Ups W9, q.nx.cell? ⟨ab, ao + k * 5 + 1, none⟩ = some _ := ups_cell ((hbl9.cell (p := ⟨ab, ao + k * 5 + 1, none⟩) hab).trans HD1.out)
        have HLK : Hid (∀ q : Ups W9, Calls Try.prog 28 #[.pointer (some ⟨b2, 0, none⟩), .agg #[.slice xs2 xn2 xq2, .slice ys2 yn2 yq2, .int .i64 (plR r1 a).room, .int .i64 (plR r1 a).armed, .bool (plR r1 a).dead], .string ⟨a.nm.toArray⟩, .string ⟨#[]⟩] q.nx fun E w' => E = .returned (.bool true) ∧ Below q.nx.heap.size q.nx w') := by
          intro q
          have hlim : lim = 140737488351232 := rfl
          exact looks_is a.nm [] (HP9.out.s1.dr.below q.ok) (HP9.out.s1.rf.up q.ok) HD9.out (by omega) (by have := HFIT.out; omega) HIN.out.1 (Nat.zero_le _)
        clear c0 c1 c2 c3 c4 hbl9
        go_wp2_with fail
        refine wp_region_up (by kernel_rfl) (by kernel_rfl) ?_
        repeat (go_big_quiet_step (exact ups_call (HLK.out _)))
        refine wpQuiet_nil ?_
        intro _ hw'
        obtain ⟨q, hw''⟩ := hw'
        subst hw''
        have HQ9 := Hid.mk' (Pq.up ⟨_, _, _, _, _, _, _, _, _, _, _, _, HP9.out, HD9.out, HS2.out⟩ q.ok)
        generalize q.nx = w7 at *
        clear q
        clear t0 t1 t2 t3 t4 t5 HLK HP9 HD9 HS2 HD1
        go_wp2_with fail
        go_roundw
        case rel => exact ⟨k + 1, by omega, by go_num, Hid.mk' (HQ9.out.symm.mono (Nat.le_refl _) (Nat.le_refl _) (by have := HFIT.out.1; omega) (by omega))⟩
        case measure => simp [intOf]; omega
      · have hlt' : ¬ (k : Int) < (RR.length : Int) := by omega
        go_wp2_with fail
        go_roundw
        case rel => exact ⟨k + 1, by omega, by go_num, Hid.mk' (HQ.out.mono (Nat.le_refl _) (Nat.le_refl _) (by rw [smd_end RR k (by omega)]; exact Nat.le_refl _) (by omega))⟩
        case measure => simp [intOf]; omega
    · obtain rfl : k = 30 := by omega
      clear hk30
      obtain ⟨d1, d2, r1, r2, M1, D1, A1, M2, D2, A2, vb1, vb2, hpr, hs1, hs2⟩ := HQ.out
      have HPR := Hid.mk' hpr
      have HS1 := Hid.mk' (hs1.mono (T2 := 4000000) (N2 := 60) (by have := smd_take_le LL 30; have := HSM.out.1; omega) (by omega))
      have HS2 := Hid.mk' (hs2.mono (T2 := 4000000) (N2 := 60) (by have := smd_take_le RR 30; have := HSM.out.2; omega) (by omega))
      clear hpr hs1 hs2 HQ HLL HRR HSM
      obtain ⟨vs1, vq1, e1, t1, o1⟩ := HPR.out.s1.rf
      obtain ⟨ys1, yn1, yq1, rfl⟩ : ∃ a n c, vs1 = Value.slice a n c := (let ⟨a, c, e, _⟩ := t1.at; ⟨a, _, c, e⟩)
      obtain ⟨zs1, zn1, zq1, rfl⟩ : ∃ a n c, vq1 = Value.slice a n c := (let ⟨a, c, e, _⟩ := o1.at; ⟨a, _, c, e⟩)
      cases e1
      obtain ⟨vs2, vq2, e2, t2, o2⟩ := HPR.out.s2.rf
      obtain ⟨ys2, yn2, yq2, rfl⟩ : ∃ a n c, vs2 = Value.slice a n c := (let ⟨a, c, e, _⟩ := t2.at; ⟨a, _, c, e⟩)
      obtain ⟨zs2, zn2, zq2, rfl⟩ : ∃ a n c, vq2 = Value.slice a n c := (let ⟨a, c, e, _⟩ := o2.at; ⟨a, _, c, e⟩)
      cases e2
      clear t1 o1 t2 o2
      go_wp2_with fail
      obtain ⟨W, hW⟩ : ∃ W, W = wv.alloc (.cells #[.pointer (some ⟨b, 0, none⟩), .string ⟨#[97]⟩] 78) := ⟨_, rfl⟩
      have hup : Below wv.heap.size wv W := by rw [hW]; exact up_alloc _ _
      have hdb : W.heap[wv.heap.size]? = some (.cells #[.pointer (some ⟨b, 0, none⟩), .string ⟨#[97]⟩] 78 (0, 0)) := by rw [hW]; exact heap_alloc_new wv _
      rw [← hW]
      clear hW
      have HPW := Hid.mk' (HPR.out.up hup)
      obtain ⟨db, hdbe⟩ : ∃ db, db = wv.heap.size := ⟨_, rfl⟩
      rw [← hdbe] at hdb ⊢
      have HDB := Hid.mk' hdb
      have HC : Hid (∀ wz, Below W.heap.size W wz → (wz.cell? ⟨db, 0, none⟩ = some (.pointer (some ⟨b, 0, none⟩)) ∧ wz.cell? ⟨db, 1, none⟩ = some (.string ⟨#[97]⟩)) ∧
          (wz.cell? ⟨x, 0, none⟩ = some (.slice ys1 yn1 yq1) ∧ wz.cell? ⟨x, 1, none⟩ = some (.slice zs1 zn1 zq1) ∧ wz.cell? ⟨x, 2, none⟩ = some (.int .i64 r1.room) ∧ wz.cell? ⟨x, 3, none⟩ = some (.int .i64 r1.armed) ∧ wz.cell? ⟨x, 4, none⟩ = some (.bool r1.dead)) ∧
          (wz.cell? ⟨x2, 0, none⟩ = some (.slice ys2 yn2 yq2) ∧ wz.cell? ⟨x2, 1, none⟩ = some (.slice zs2 zn2 zq2) ∧ wz.cell? ⟨x2, 2, none⟩ = some (.int .i64 r2.room) ∧ wz.cell? ⟨x2, 3, none⟩ = some (.int .i64 r2.armed) ∧ wz.cell? ⟨x2, 4, none⟩ = some (.bool r2.dead))) := by
        intro wz hz
        have h1 : wz.heap[db]? = _ := (hz.block db (Array.getElem?_eq_some_iff.1 HDB.out).1).trans HDB.out
        obtain ⟨a1, a2⟩ := (cl2_get h1).1
        exact ⟨⟨a1, a2⟩, box5 (HPW.out.up hz).s1.bx, box5 (HPW.out.up hz).s2.bx⟩
      obtain ⟨⟨e0, e1⟩, ⟨c0, c1, c2, c3, c4⟩, _⟩ := HC.out W (Below.refl _ _)
      have q0 : ∀ q : Kp (fun _ => False) W, q.nx.cell? ⟨db, 0, none⟩ = some _ := fun q => q.cell e0 id
      have q1 : ∀ q : Kp (fun _ => False) W, q.nx.cell? ⟨db, 1, none⟩ = some _ := fun q => q.cell e1 id
      have r0 : ∀ q : Kp (fun _ => False) W, q.nx.cell? ⟨x, 0, none⟩ = some _ := fun q => q.cell c0 id
      have r1' : ∀ q : Kp (fun _ => False) W, q.nx.cell? ⟨x, 1, none⟩ = some _ := fun q => q.cell c1 id
      have r2' : ∀ q : Kp (fun _ => False) W, q.nx.cell? ⟨x, 2, none⟩ = some _ := fun q => q.cell c2 id
      have r3 : ∀ q : Kp (fun _ => False) W, q.nx.cell? ⟨x, 3, none⟩ = some _ := fun q => q.cell c3 id
      have r4 : ∀ q : Kp (fun _ => False) W, q.nx.cell? ⟨x, 4, none⟩ = some _ := fun q => q.cell c4 id
      clear e0 e1 c0 c1 c2 c3 c4 hup hdbe HPR hdb
      refine wp_region_mix 7 (fun w' => ∃ q : Kp (fun _ => False) W, w' = q.nx) (by kernel_rfl) (by kernel_rfl) (kp_first _ W) ?_
      simp only [List.take_succ_cons, List.take_zero, List.drop_succ_cons, List.drop_zero]
      refine mx_take 1 rfl ?_
      simp only [List.take_succ_cons, List.take_zero, List.drop_succ_cons, List.drop_zero]
      repeat (go_big_quiet_step (fail))
      refine wpQuiet_nil ?_
      refine mx_make rfl (by kernel_rfl) (exec_bs1 rfl rfl) (kp_mk (by simp) fun j hj _ => (up_alloc W.drew _).block j hj) ?_
      simp only [Act.put, List.setIfInBounds_toArray, List.set_cons_succ, List.set_cons_zero]
      obtain ⟨wm, hwm⟩ : ∃ wm, wm = W.drew.alloc (.cells #[.string ⟨#[98]⟩] 9) := ⟨_, rfl⟩
      have hbm : Below W.heap.size W wm := by rw [hwm]; exact (drew_blx W _).trans (up_alloc W.drew _)
      have hone : Ss (fun _ => True) wm (.slice (some ⟨W.drew.heap.size, 0, none⟩) 1 1) [[98]] := by rw [hwm]; exact ⟨(one_ss [98]).1.monoS fun _ _ => trivial, (one_ss (w := W.drew) [98]).2⟩
      rw [← hwm]
      clear hwm
      refine mx_call (vals := [.agg #[.pointer (some ⟨b, 0, none⟩), .string ⟨#[97]⟩], .slice (some ⟨W.drew.heap.size, 0, none⟩) 1 1]) Try.func41 (by kernel_rfl) rfl rfl (by kernel_rfl) (by kernel_rfl) (names_any [97] (HPW.out.s1.dr.below hbm) (by have := sd_len HS1.out (by decide); omega) hone (by decide) (lsD_nm HS1.out _)) (fun e wa ha => ?_)
      obtain ⟨v18, rfl, o18, b18⟩ := ha
      have h18 := bt hbm b18
      refine ⟨_, rfl, kp_mk h18.size fun j hj _ => h18.block j hj, ?_⟩
      simp only [Act.put, List.setIfInBounds_toArray, List.set_cons_succ, List.set_cons_zero]
      refine mx_take 1 rfl ?_
      simp only [List.take_succ_cons, List.take_zero, List.drop_succ_cons, List.drop_zero]
      repeat (go_big_quiet_step (fail))
      refine wpQuiet_nil ?_
      refine mx_call (vals := [.agg #[.slice ys1 yn1 yq1, .slice zs1 zn1 zq1, .int .i64 r1.room, .int .i64 r1.armed, .bool r1.dead], .string ⟨#[97, 98]⟩]) Try.func42 (by kernel_rfl) rfl rfl (by kernel_rfl) (by kernel_rfl) (sd_list HS1.out (by decide) [97, 98] (HPW.out.up h18).s1.rf (by decide)) (fun e wb hb => ?_)
      obtain ⟨v19, rfl, o19, b19⟩ := hb
      have h19 := bt h18 b19
      refine ⟨_, rfl, kp_mk h19.size fun j hj _ => h19.block j hj, ?_⟩
      simp only [Act.put, List.setIfInBounds_toArray, List.set_cons_succ, List.set_cons_zero]
      refine mx_take 2 rfl ?_
      simp only [List.take_succ_cons, List.take_zero, List.drop_succ_cons, List.drop_zero]
      repeat (go_big_quiet_step (fail))
      refine wpQuiet_nil ?_
      simp only [wpMix]
      have o18' := o18.up b19
      have HAB : Hid (∀ s ∈ lsD d1 [97, 98], (∃ t, s = 97 :: 98 :: t) ∧ s.length ≤ maxLen) := fun s hs => ⟨lsD_ab hs, lsD_nm HS1.out _ s hs⟩
      have HLN : Hid ((lsD d1 [97, 98]).length ≤ 1000) := Nat.le_trans (lsD_le d1 _) (sd_len HS1.out (by decide))
      rw [show ([97] : By) ++ [[98]].flatten = [97, 98] from rfl] at o18'
      obtain ⟨na, nc, ev⟩ := o18'.slice
      rw [List.length_map] at ev
      subst ev
      obtain ⟨ma, mc, rfl⟩ := o19.slice
      have HN18 := Hid.mk' o18'
      have HN19 := Hid.mk' o19
      have HBB := Hid.mk' h19
      clear q0 q1 r0 r1' r2' r3 r4 hbm hone o18 b18 h18 o18' o19 b19 h19 HDB
      generalize lsD d1 [97, 98] = K at *
      have HP3 : Hid (∀ wz, Below W.heap.size W wz → Calls Try.prog 43 #[.agg #[.pointer (some ⟨b, 0, none⟩), .string ⟨#[97]⟩], .slice (some ⟨wz.heap.size, 0, none⟩) 3 3] (wz.alloc (.cells #[.string ⟨#[120]⟩, .string ⟨#[47]⟩, .string ⟨#[121]⟩] 9)) fun e w' => e = .returned (.string ⟨#[97, 120, 47, 121]⟩) ∧ Below wz.heap.size wz w') := fun wz hz =>
        (path_any [97] (three_ss [120] [47] [121]) (by decide)).mono fun e w' ⟨h1, h2⟩ => ⟨h1, (up_alloc wz _).trans (h2.mono (up_alloc wz _).size)⟩
      have HP0 : Hid (∀ wz : World, Calls Try.prog 43 #[.agg #[.pointer (some ⟨b, 0, none⟩), .string ⟨#[97]⟩], .slice none 0 0] wz fun e w' => e = .returned (.string ⟨#[97]⟩) ∧ Below wz.heap.size wz w') := fun wz =>
        path_any (A := fun _ => True) [97] (ps := []) ⟨Row.void (fun _ => rfl), by decide⟩ (by decide)
      obtain ⟨⟨e0, e1⟩, ⟨c0, c1, c2, c3, c4⟩, ⟨f0, f1, f2, f3, f4⟩⟩ := HC.out _ HBB.out
      go_wp2_with fail
      refine (HP3.out _ HBB.out).mono ?_
      rintro E2 w2 ⟨rfl, b2'⟩
      have H2 := Hid.mk' b2'
      have HB2 := Hid.mk' (bt HBB.out b2')
      clear b2' e0 e1 c0 c1 c2 c3 c4 f0 f1 f2 f3 f4
      obtain ⟨⟨e0, e1⟩, ⟨c0, c1, c2, c3, c4⟩, ⟨f0, f1, f2, f3, f4⟩⟩ := HC.out _ HB2.out
      go_wp2_with fail
      refine (HP0.out _).mono ?_
      rintro E3 w3 ⟨rfl, b3'⟩
      have H3 := Hid.mk' (bt H2.out b3')
      have HB3 := Hid.mk' (bt HB2.out b3')
      clear b3' e0 e1 c0 c1 c2 c3 c4 f0 f1 f2 f3 f4 H2 HB2
      obtain ⟨⟨e0, e1⟩, ⟨c0, c1, c2, c3, c4⟩, ⟨f0, f1, f2, f3, f4⟩⟩ := HC.out _ HB3.out
      have HU1 := Hid.mk' (used_is (HPW.out.up HB3.out).s1.dr (sd_tot HS1.out (by decide)))
      go_wp2_with fail
      refine HU1.out.mono ?_
      rintro E4 w4 ⟨rfl, b4'⟩
      have H4 := Hid.mk' (bt H3.out b4')
      have HB4 := Hid.mk' (bt HB3.out b4')
      clear b4' e0 e1 c0 c1 c2 c3 c4 f0 f1 f2 f3 f4 H3 HB3 HU1
      obtain ⟨⟨e0, e1⟩, ⟨c0, c1, c2, c3, c4⟩, ⟨f0, f1, f2, f3, f4⟩⟩ := HC.out _ HB4.out
      have HU2 := Hid.mk' (used_is (HPW.out.up HB4.out).s1.dr (sd_tot HS1.out (by decide)))
      go_wp2_with fail
      refine HU2.out.mono ?_
      rintro E5 w5 ⟨rfl, b5'⟩
      have H5 := Hid.mk' (bt H4.out b5')
      have HB5 := Hid.mk' (bt HB4.out b5')
      clear b5' e0 e1 c0 c1 c2 c3 c4 f0 f1 f2 f3 f4 H4 HB4 HU2
      obtain ⟨⟨e0, e1⟩, ⟨c0, c1, c2, c3, c4⟩, ⟨f0, f1, f2, f3, f4⟩⟩ := HC.out _ HB5.out
      have HK1 := Hid.mk' (looks_is [97] [] (HPW.out.up HB5.out).s1.dr (HPW.out.up HB5.out).s1.rf HS1.out (by decide) (by decide) (by decide) (by decide))
      go_wp2_with fail
      refine HK1.out.mono ?_
      rintro E6 w6' ⟨rfl, b6'⟩
      have H6 := Hid.mk' (bt H5.out b6')
      have HB6 := Hid.mk' (bt HB5.out b6')
      clear b6' e0 e1 c0 c1 c2 c3 c4 f0 f1 f2 f3 f4 H5 HB5 HK1
      obtain ⟨⟨e0, e1⟩, ⟨c0, c1, c2, c3, c4⟩, ⟨f0, f1, f2, f3, f4⟩⟩ := HC.out _ HB6.out
      have HK2 := Hid.mk' (looks_is [97] [] (HPW.out.up HB6.out).s2.dr (HPW.out.up HB6.out).s2.rf HS2.out (by decide) (by decide) (by decide) (by decide))
      go_wp2_with fail
      refine HK2.out.mono ?_
      rintro E7 w7' ⟨rfl, b7'⟩
      have H7 := Hid.mk' (bt H6.out b7')
      have HB7 := Hid.mk' ((HPW.out.up (bt HB6.out b7')).s1.bl)
      have HR18 := Hid.mk' ((HN18.out.up H7.out).ss (by rw [List.length_map]; have := HLN.out; unfold lim; omega))
      have HR19 := Hid.mk' ((HN19.out.up H7.out).ss (by have := HLN.out; unfold lim; omega))
      clear b7' e0 e1 c0 c1 c2 c3 c4 f0 f1 f2 f3 f4 H6 HB6 HK2 HC HPW HS1 HS2 HP3 HP0 HN18 HN19 H7 HBB
      have hKl : (K.length : Int) ≤ 1000 := by have := HLN.out; omega
      go_wp2_with fail
      go_loopw [157] (fun i wr => ∃ k : Nat, k ≤ K.length ∧ i = .int .i64 k ∧ Hid (Below w7'.heap.size w7' wr)) (fun i _ => K.length - (intOf i).toNat)
      case atStart => exact ⟨0, by omega, rfl, Below.refl _ _⟩
      case round =>
      obtain ⟨k, hk, rfl, HBR⟩ := hrel
      by_cases hlt : k < K.length
      · have hlt' : (k : Int) < (K.length : Int) := by omega
        obtain ⟨_, _, e18, _, _, K18⟩ := (HR18.out.up HBR.out).at
        rw [List.length_map] at e18
        cases e18
        obtain ⟨_, _, e19, _, _, K19⟩ := (HR19.out.up HBR.out).at
        cases e19
        obtain ⟨g1, o1, rfl, _, u1⟩ := K18 k (by rw [List.length_map]; exact hlt)
        obtain ⟨g2, o2, rfl, _, u2⟩ := K19 k hlt
        rw [List.getElem_map] at u1
        obtain ⟨⟨t, ht⟩, hm⟩ := HAB.out _ (List.getElem_mem hlt)
        rw [ht] at u1 u2 hm
        rw [show (97 :: 98 :: t : By).drop ([97] : By).length = 98 :: t from rfl] at u1
        have hcat := ba_app [97] (98 :: t)
        rw [show ([97] : By) ++ (98 :: t) = 97 :: 98 :: t from rfl] at hcat
        have hsz1 : (⟨(98 :: t).toArray⟩ : ByteArray).size = (98 :: t : By).length := by simp [ByteArray.size]
        have HT := Hid.mk' ht
        clear K18 K19 ht
        obtain ⟨s1, hs1⟩ : ∃ s : By, s = 98 :: t := ⟨_, rfl⟩
        obtain ⟨s2, hs2⟩ : ∃ s : By, s = 97 :: 98 :: t := ⟨_, rfl⟩
        have hl2 : s1.length + 1 ≤ maxLen := by rw [hs1]; simpa using hm
        rw [← hs2] at u2 hcat
        rw [← hs1] at u1 hcat hsz1
        clear hs1 hs2 hm
        have hsum : ¬ 9223372036854775807 < 1 + s1.length := by unfold maxLen at hl2; omega
        have hsum' : ¬ (9223372036854775807 : Int) < 1 + (s1.length : Int) := by unfold maxLen at hl2; omega
        clear hl2
        go_wp2_with fail
        go_quiet (fail)
        go_wp2_with fail
        go_roundw
        case rel => exact ⟨k + 1, by omega, by go_num, HBR.out.trans (((Dn.refl _).more _).below _)⟩
        case measure => simp [intOf]; omega
      · obtain rfl : k = K.length := by omega
        go_wp2_with fail
        go_ret
        exact ⟨rfl, HB7.out.trans (HBR.out.mono HB7.out.size)⟩
end Go.Proofs.Ytpgpncngamagdaa
