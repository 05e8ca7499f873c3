/- groyneref04: Deed. -/
import Derived.Test.YtpgpncngamagdaaRQ
set_option linter.unusedVariables false
set_option linter.unusedSimpArgs false
namespace Go.Proofs.Ytpgpncngamagdaa
open Go.RowKit
attribute [local go_sem ↓] Go.wp_at_zero Go.wp_at_succ
set_option maxRecDepth 100000 in
set_option maxHeartbeats 8000000 in
/-- groyneref04.Deed: removed -/
theorem rdeed_rem {A : Nat → Prop} {w : World} {v : Value} {r : Rd} {T : Nat} (nm : By)
    (h : Rf A w v r) (hk : Rok T r) (hT : T ≤ lim) (hr : 0 ≤ r.room ∧ r.room ≤ 9223372036854775807) (ha : -1 ≤ r.armed ∧ r.armed ≤ 9223372036854775807) :
    Calls Try.prog 35 #[v, .agg #[.int .i64 4, .string ⟨nm.toArray⟩, .string ⟨#[]⟩, .int .i64 0, .slice none 0 0], .bool false] w (RdPost A w (rfE r (thF (cur r) nm)) (rfQ r (thF (cur r) nm) (.rem nm))) := by
  obtain ⟨vs, vq, rfl, h1, h2⟩ := h
  have H1 := Hid.mk' h1.andLt
  have H2 := Hid.mk' h2.andLt
  obtain ⟨a, c, rfl, hx1⟩ := h1.at
  obtain ⟨qa, qc, rfl, hx2, hx3, hql, hx4⟩ := h2.at
  clear hx1 hx2 hx3 hx4
  have HK := Hid.mk' hk
  have HTL := Hid.mk' hT
  have HR := Hid.mk' hr
  have HAR := Hid.mk' ha
  have HC : Hid (cur r = all r.safe r.queue) := rfl
  have HC2 : Hid (Fg T (cur r)) := Qg.last hk.1
  have HCL : Hid ((cur r).length ≤ 900000) := Nat.le_trans (all_len hk.1) hk.2
  obtain ⟨C, hC⟩ : ∃ C, C = cur r := ⟨_, rfl⟩
  rw [← hC] at HC HC2 HCL ⊢
  obtain ⟨e, he⟩ : ∃ e : Int, e = thF C nm := ⟨_, rfl⟩
  rw [← he]
  have HE := Hid.mk' he
  have HP1 : Hid (rfE r e = if r.dead = true then 9 else if e ≠ 0 then e else if r.armed = 0 then 9 else 0) := rfl
  have HP2 : Hid (rfQ r e (.rem nm) = if r.dead = true ∨ e ≠ 0 then r else { (if r.armed = 0 then { r with dead := true } else if 0 < r.armed then { r with armed := r.armed - 1 } else r) with queue := r.queue ++ [.rem nm] }) := rfl
  generalize rfQ r e (.rem nm) = rR at *
  generalize rfE r e = rE at *
  clear h1 h2 hk hT hr ha hC he
  obtain ⟨sf, qu, room, armed, dead⟩ := r
  unfold Rok at HK
  simp only at *
  obtain ⟨W, hW⟩ : ∃ W, W = ((w.alloc (.cells #[.slice a sf.length c, .slice qa qu.length qc, .int .i64 room, .int .i64 armed, .bool dead] 51)).alloc (.cells #[.int .i64 4, .string ⟨nm.toArray⟩, .string ⟨#[]⟩, .int .i64 0, .slice none 0 0] 68)).alloc (.cells #[.slice none 0 0, .slice none 0 0, .int .i64 0, .int .i64 0, .bool false] 51) := ⟨_, rfl⟩
  have HDX : Hid (Dx w #[.slice a sf.length c, .slice qa qu.length qc, .int .i64 room, .int .i64 armed, .bool dead] #[.int .i64 4, .string ⟨nm.toArray⟩, .string ⟨#[]⟩, .int .i64 0, .slice none 0 0] W) := by show Dx _ _ _ _; rw [hW]; exact Dx.first _ _ _
  go_enter Try.func35, Try.ntmps35
  go_wp2_with fail
  rw [← hW]
  clear hW
  obtain ⟨c0, c1, c2, c3, c4⟩ := box5 HDX.out.d
  obtain ⟨d0, d1, d2, d3, d4⟩ := box5 HDX.out.o
  have r0 : ∀ q : Kp (fun _ => False) W, q.nx.cell? ⟨w.heap.size, 0, none⟩ = some (.slice a sf.length c) := fun q => q.cell c0 id
  have r1 : ∀ q : Kp (fun _ => False) W, q.nx.cell? ⟨w.heap.size, 1, none⟩ = some (.slice qa qu.length qc) := fun q => q.cell c1 id
  have r2 : ∀ q : Kp (fun _ => False) W, q.nx.cell? ⟨w.heap.size, 2, none⟩ = some (.int .i64 room) := fun q => q.cell c2 id
  have r3 : ∀ q : Kp (fun _ => False) W, q.nx.cell? ⟨w.heap.size, 3, none⟩ = some (.int .i64 armed) := fun q => q.cell c3 id
  have r4 : ∀ q : Kp (fun _ => False) W, q.nx.cell? ⟨w.heap.size, 4, none⟩ = some (.bool dead) := fun q => q.cell c4 id
  have r5 : ∀ q : Kp (fun _ => False) W, q.nx.cell? ⟨w.heap.size + 1, 1, none⟩ = some (.string ⟨nm.toArray⟩) := fun q => q.cell d1 id
  have HA := Hid.mk' (raft_all (y2 := .int .i64 room) (y3 := .int .i64 armed) (y4 := .bool dead) (H1.out.up (HDX.out.bl.trans (drew_blx W _))) (H2.out.up (HDX.out.bl.trans (drew_blx W _))) HK.out.1 HK.out.2)
  clear c0 c1 c2 c3 c4 d0 d1 d2 d3 d4
  refine wp_region_mix 10 (fun w' => ∃ q : Kp (fun _ => False) W, w' = q.nx) (by kernel_rfl) (by kernel_rfl) (kp_first _ W) ?_
  simp only [List.take_succ_cons, List.take_zero, List.drop_succ_cons, List.drop_zero]
  refine mx_take 1 rfl ?_
  simp only [List.take_succ_cons, List.take_zero, List.drop_succ_cons, List.drop_zero]
  repeat (go_big_quiet_step (fail))
  refine wpQuiet_nil ?_
  refine mx_call (vals := [.agg #[.slice a sf.length c, .slice qa qu.length qc, .int .i64 room, .int .i64 armed, .bool dead], .int .i64 (-1)]) Try.func38 (by kernel_rfl) rfl rfl (by kernel_rfl) (by kernel_rfl) HA.out (fun e2 wa ha => ?_)
  obtain ⟨y, rfl, ta, hba⟩ := ha
  have hWa : Below W.heap.size W wa := (drew_blx W _).trans hba
  refine ⟨_, rfl, kp_mk hWa.size fun b hb hx => hWa.block b hb, ?_⟩
  simp only [Act.put, List.setIfInBounds_toArray, List.set_cons_succ, List.set_cons_zero]
  rw [← HC.out] at ta
  obtain ⟨a9, c9, rfl, _⟩ := ta.at
  refine mx_take 2 rfl ?_
  simp only [List.take_succ_cons, List.take_zero, List.drop_succ_cons, List.drop_zero]
  repeat (go_big_quiet_step (fail))
  refine wpQuiet_nil ?_
  refine mx_call (vals := [.slice a9 C.length c9, .string ⟨nm.toArray⟩]) Try.func69 (by kernel_rfl) rfl rfl (by kernel_rfl) (by kernel_rfl) (get_any nm ta) (fun e2 wb hb => ?_)
  obtain ⟨⟨u9, rfl, hu9⟩, rfl⟩ := hb
  refine ⟨_, rfl, kp_mk hWa.size fun b hb hx => hWa.block b hb, ?_⟩
  simp only [Act.put, List.setIfInBounds_toArray, List.set_cons_succ, List.set_cons_zero]
  refine mx_take 5 rfl ?_
  simp only [List.take_succ_cons, List.take_zero, List.drop_succ_cons, List.drop_zero]
  repeat (go_big_quiet_step (fail))
  refine wpQuiet_nil ?_
  simp only [wpMix]
  have HD2 := Hid.mk' (HDX.out.up hWa)
  obtain ⟨a8, c8, rfl, _⟩ := hu9.at
  have HBL := Hid.mk' hu9.2
  have hbl : ((foz C nm).length : Int) ≤ 140737488351232 := by have := HBL.out; unfold lim at this; omega
  have HTH : Hid (∀ b : Bool, b = (fget C nm).isSome → (thF C nm = if b = true then 0 else 6) ∧ ∀ k : Int, trE C nm k = if k < 0 ∨ (b = true ∧ ((foz C nm).length : Int) < k) then 1 else if b = true then 0 else 6) := fun b hb => by subst hb; exact ⟨rfl, fun _ => rfl⟩
  obtain ⟨th, hth⟩ : ∃ th, th = (fget C nm).isSome := ⟨_, rfl⟩
  have HTH := Hid.mk' (HTH.out th hth)
  rw [← hth]
  clear ta hba hWa hu9 r0 r1 r2 r3 r4 r5 HA hth HDX
  have HD4 := HD2
  clear HD2
  obtain ⟨d0, d1, d2, d3, d4⟩ := box5 HD4.out.o
  rename World => wv
  clear d0 d1 d2 d3 d4
  obtain ⟨c0, c1, c2, c3, c4⟩ := box5 HD4.out.d
  obtain ⟨d0, d1, d2, d3, d4⟩ := box5 HD4.out.o
  have HZZ := HD4.out.z2
  obtain ⟨z0, z1, z2, z3, z4⟩ := box5 HZZ
  have hfz : ∀ j, wv.frozen? ⟨w.heap.size + 1 + 1, j, none⟩ = false := fun j => by simp only [World.frozen?, HZZ]; simp
  have HZ9 := Hid.mk' HZZ
  clear HZZ
  cases dead
  case true =>
    have hP1 := HP1.out
    have hP2 := HP2.out
    simp only [true_or, if_true] at hP1 hP2
    have HQ1 := Hid.mk' hP1
    have HQ2 := Hid.mk' hP2
    clear hP1 hP2 HP1 HP2
    go_wp2_with fail
    obtain ⟨W9, hW9, h9, hb9⟩ := stored5 HZ9.out (.slice a sf.length c) (.slice qa qu.length qc) (.int .i64 room) (.int .i64 armed) (.bool true)
    rw [← hW9]
    clear hW9 c0 c1 c2 c3 c4 d0 d1 d2 d3 d4 z0 z1 z2 z3 z4 hfz
    obtain ⟨z0, z1, z2, z3, z4⟩ := box5 h9
    refine bodyPost_ret (v := .tuple #[.agg #[.slice a sf.length c, .slice qa qu.length qc, .int .i64 room, .int .i64 armed, .bool true], .int .i64 9]) (by simp [results, Try.results35, go_sem, z0, z1, z2, z3, z4]) rfl ⟨_, by rw [HQ1.out], ?_, HD4.out.bl.trans (hb9.below HD4.out.bl.size fun k hk => by omega)⟩
    rw [HQ2.out]
    exact ⟨_, _, rfl, ((H1.out.up HD4.out.bl).wb hb9 fun k hk hk2 => by have := hk2.2; omega).monoS fun k hk => .inl hk.1, ((H2.out.up HD4.out.bl).wb hb9 fun k hk hk2 => by have := hk2.2; omega).monoS fun k hk => .inl hk.1⟩
  case false =>
  have hP1 := HP1.out
  have hP2 := HP2.out
  simp only [Bool.false_eq_true, false_or, if_false] at hP1 hP2
  have HQ1 := Hid.mk' hP1
  have HQ2 := Hid.mk' hP2
  clear hP1 hP2 HP1 HP2
  go_upto_block 0 with fail
  go_cut [10] (fun e10 wx => e10 = .int .i64 e ∧ Hid (Dx w #[.slice a sf.length c, .slice qa qu.length qc, .int .i64 room, .int .i64 armed, .bool false] #[.int .i64 4, .string ⟨nm.toArray⟩, .string ⟨#[]⟩, .int .i64 0, .slice none 0 0] wx))
  case first =>
    cases th
    · have HEE : Hid (e = 6) := by show _ = _; rw [HE.out, HTH.out.1]; rfl
      go_wp2_with fail
      go_meet
      exact ⟨by rw [HEE.out], HD4⟩
    · have HEE : Hid (e = 0) := by show _ = _; rw [HE.out, HTH.out.1]; rfl
      go_wp2_with fail
      go_meet
      exact ⟨by rw [HEE.out], HD4⟩

  case rest =>
    obtain ⟨rfl, HD5⟩ := hcut
    clear c0 c1 c2 c3 c4 d0 d1 d2 d3 d4 z0 z1 z2 z3 z4 hfz HZ9
    rename World => wc
    obtain ⟨c0, c1, c2, c3, c4⟩ := box5 HD5.out.d
    obtain ⟨d0, d1, d2, d3, d4⟩ := box5 HD5.out.o
    have HZZ := HD5.out.z2
    obtain ⟨z0, z1, z2, z3, z4⟩ := box5 HZZ
    have hfz : ∀ j, wc.frozen? ⟨w.heap.size + 1 + 1, j, none⟩ = false := fun j => by simp only [World.frozen?, HZZ]; simp
    have hfd : ∀ j, wc.frozen? ⟨w.heap.size, j, none⟩ = false := fun j => by simp only [World.frozen?, HD5.out.d]; simp
    have HZ9 := Hid.mk' HZZ
    clear HZZ
    by_cases hez : e = 0
    case neg =>
      have hez2 : (e == 0) = false := by simpa using hez
      have hP1 := HQ1.out
      have hP2 := HQ2.out
      simp only [hez, ne_eq, not_false_eq_true, if_true, if_false] at hP1 hP2
      have HQ1 := Hid.mk' hP1
      have HQ2 := Hid.mk' hP2
      clear hP1 hP2 hez
      go_wp2_with fail
      obtain ⟨W9, hW9, h9, hb9⟩ := stored5 HZ9.out (.slice a sf.length c) (.slice qa qu.length qc) (.int .i64 room) (.int .i64 armed) (.bool false)
      rw [← hW9]
      clear hW9 c0 c1 c2 c3 c4 d0 d1 d2 d3 d4 z0 z1 z2 z3 z4 hfz hfd
      obtain ⟨z0, z1, z2, z3, z4⟩ := box5 h9
      refine bodyPost_ret (v := .tuple #[.agg #[.slice a sf.length c, .slice qa qu.length qc, .int .i64 room, .int .i64 armed, .bool false], .int .i64 e]) (by simp [results, Try.results35, go_sem, z0, z1, z2, z3, z4]) rfl ⟨_, by rw [HQ1.out], ?_, HD5.out.bl.trans (hb9.below HD5.out.bl.size fun k hk => by omega)⟩
      rw [HQ2.out]
      exact ⟨_, _, rfl, ((H1.out.up HD5.out.bl).wb hb9 fun k hk hk2 => by have := hk2.2; omega).monoS fun k hk => .inl hk.1, ((H2.out.up HD5.out.bl).wb hb9 fun k hk hk2 => by have := hk2.2; omega).monoS fun k hk => .inl hk.1⟩
    case pos =>
    have HE0 := Hid.mk' hez
    have hP1 := HQ1.out
    have hP2 := HQ2.out
    rw [hez] at hP1 hP2
    simp only [ne_eq, not_true_eq_false, if_false] at hP1 hP2
    have HQ1 := Hid.mk' hP1
    have HQ2 := Hid.mk' hP2
    clear hP1 hP2
    obtain ⟨f2, hf2⟩ : ∃ f2 : Int, f2 = if armed = 0 then 9 else 0 := ⟨_, rfl⟩
    obtain ⟨a2, ha2⟩ : ∃ a2 : Int, a2 = if 0 < armed then armed - 1 else armed := ⟨_, rfl⟩
    obtain ⟨b2, hb2⟩ : ∃ b2 : Bool, b2 = decide (armed = 0) := ⟨_, rfl⟩
    have HF2 := Hid.mk' hf2
    have HA2 := Hid.mk' ha2
    have HB2 := Hid.mk' hb2
    clear hf2 ha2 hb2 HE
    subst hez
    go_upto_if 107 with fail
    go_cut [10] (fun e10 wx => e10 = .int .i64 f2 ∧ Hid (Dx w #[.slice a sf.length c, .slice qa qu.length qc, .int .i64 room, .int .i64 a2, .bool b2] #[.int .i64 4, .string ⟨nm.toArray⟩, .string ⟨#[]⟩, .int .i64 0, .slice none 0 0] wx))
    case first =>
      have hal : -1 ≤ armed := HAR.out.1
      have hal2 : armed ≤ 9223372036854775807 := HAR.out.2
      by_cases h0 : armed = 0
      · subst h0
        have HX1 : Hid (f2 = 9) := by show _ = _; rw [HF2.out]; rfl
        have HX2 : Hid (a2 = 0) := by show _ = _; rw [HA2.out]; rfl
        have HX3 : Hid (b2 = true) := by show _ = _; rw [HB2.out]; rfl
        have HD6 := Hid.mk' (HD5.out.setd 4 (.bool true))
        go_wp2_with fail
        go_meet
        exact ⟨by rw [HX1.out], by rw [HX2.out, HX3.out]; exact HD6.out⟩
      · have h0' : (armed == 0) = false := by simpa using h0
        have HX1 : Hid (f2 = 0) := by show _ = _; rw [HF2.out, if_neg h0]
        have HX3 : Hid (b2 = false) := by show _ = _; rw [HB2.out]; simpa using h0
        by_cases h1 : 0 < armed
        · have HX2 : Hid (a2 = armed - 1) := by show _ = _; rw [HA2.out, if_pos h1]
          have HD6 := Hid.mk' (HD5.out.setd 3 (.int .i64 (armed - 1)))
          clear h0
          go_wp2_with fail
          go_meet
          exact ⟨by rw [HX1.out], by rw [HX2.out, HX3.out]; exact HD6.out⟩
        · have HX2 : Hid (a2 = armed) := by show _ = _; rw [HA2.out, if_neg h1]
          clear h0
          go_wp2_with fail
          go_meet
          exact ⟨by rw [HX1.out], by rw [HX2.out, HX3.out]; exact HD5⟩
    case rest =>
      obtain ⟨rfl, HD6⟩ := hcut
      clear c0 c1 c2 c3 c4 d0 d1 d2 d3 d4 z0 z1 z2 z3 z4 hfz hfd HZ9 HD5
      rename World => wd
      have HQ3 : Hid (rE = f2) := by show _ = _; rw [HQ1.out, HF2.out]; simp
      have HQ4 : Hid (rR = ⟨sf, qu ++ [.rem nm], room, a2, b2⟩) := by
        show _ = _
        rw [HQ2.out, HA2.out, HB2.out]
        by_cases h0 : armed = 0
        · simp [h0]
        · by_cases h1 : 0 < armed <;> simp [h0, h1]
      clear HQ1 HQ2 HA2 HB2 HF2
      obtain ⟨L, hL, hrow, hel, hn⟩ := H2.out.up HD6.out.bl
      have hLl : L.length = qu.length := by rw [← hL, List.length_map]
      have HL := Hid.mk' hL
      rw [hLl] at hrow hn
      have HRW := Hid.mk' hrow
      have HEL := Hid.mk' hel
      have HLL := Hid.mk' hLl
      have HQN : Hid (qu.length ≤ 900000) := Nat.le_trans (Nat.le_add_left _ _) HK.out.2
      clear hL hLl hrow hel hn
      obtain ⟨c0, c1, c2, c3, c4⟩ := box5 HD6.out.d
      obtain ⟨d0, d1, d2, d3, d4⟩ := box5 HD6.out.o
      go_wp2_with fail
      have r1 : ∀ q : Ups wd, q.nx.cell? ⟨w.heap.size, 1, none⟩ = some (.slice qa qu.length qc) := fun q => cell_later q.ok c1
      have s0 : ∀ q : Ups wd, q.nx.cell? ⟨w.heap.size + 1, 0, none⟩ = some _ := fun q => cell_later q.ok d0
      have s1 : ∀ q : Ups wd, q.nx.cell? ⟨w.heap.size + 1, 1, none⟩ = some _ := fun q => cell_later q.ok d1
      have s2 : ∀ q : Ups wd, q.nx.cell? ⟨w.heap.size + 1, 2, none⟩ = some _ := fun q => cell_later q.ok d2
      have s3 : ∀ q : Ups wd, q.nx.cell? ⟨w.heap.size + 1, 3, none⟩ = some _ := fun q => cell_later q.ok d3
      have s4 : ∀ q : Ups wd, q.nx.cell? ⟨w.heap.size + 1, 4, none⟩ = some _ := fun q => cell_later q.ok d4
      clear c0 c1 c2 c3 c4 d0 d1 d2 d3 d4
      refine wp_region_free 6 Up (fun w' => ∃ p : Ups wd, w' = p.nx) (ul [(119, UL.voidB wd.heap.size 68), (122, UL.own wd.heap.size 68 5 qu.length (ocs L)), (124, UL.newC wd.heap.size #[.int .i64 4, .string ⟨nm.toArray⟩, .string ⟨#[]⟩, .int .i64 0, .slice none 0 0] 68)]) (by kernel_rfl) (by kernel_rfl) (ul_ck _) (up_first wd) ?_
      simp only [List.take_succ_cons, List.take_zero, List.drop_succ_cons, List.drop_zero]
      refine wf_make (V := (UL.voidB wd.heap.size 68).1) (by kernel_rfl) (by kernel_rfl) (fun w1 hC _ => ?_) (fun u3 ho3 => ?_)
      · obtain ⟨p, rfl⟩ := hC
        exact ⟨_, _, by simp only [execOp, List.map_toArray, List.map_nil]; exact run_v (lays49 p.nx), up_alloc _ _, ⟨_, rfl⟩, ⟨_, rfl, p.ok.size, heap_alloc_new _ _⟩⟩
      obtain ⟨g3, rfl⟩ := ho3
      simp only [Act.put, List.setIfInBounds_toArray, List.set_cons_succ, List.set_cons_zero]
      refine wf_take 2 rfl ?_
      simp only [List.take_succ_cons, List.take_zero, List.drop_succ_cons, List.drop_zero]
      repeat (go_big_quiet_step (fail))
      refine wpQuiet_nil ?_
      refine wf_app (V := (UL.own wd.heap.size 68 5 qu.length (ocs L)).1) rfl rfl rfl (by kernel_rfl) (by kernel_rfl) (fun w1 hC hK => ?_) (fun u4 ho4 => ?_)
      · obtain ⟨p, rfl⟩ := hC
        obtain ⟨g', e', hBg, hg⟩ := hK 119 _ _ (looks_of (by kernel_rfl)) (.inr ⟨rfl, rfl⟩) rfl
        cases e'
        obtain ⟨v', w', k1, k2, k3, k4⟩ := run_app0B (P := Try.prog) 49 49 Try.underlying49 Try.info68 rfl (by decide) hg hBg (HRW.out.up p.ok) (ocs_one HEL.out) (by have := HQN.out; unfold maxLen; omega) (by have := HQN.out; omega)
        exact ⟨v', w', k1, k4, k2, k3⟩
      obtain ⟨a4, c4', rfl⟩ := ho4
      simp only [Act.put, List.setIfInBounds_toArray, List.set_cons_succ, List.set_cons_zero]
      refine wf_take 1 rfl ?_
      simp only [List.take_succ_cons, List.take_zero, List.drop_succ_cons, List.drop_zero]
      repeat (go_big_quiet_step (fail))
      refine wpQuiet_nil ?_
      refine wf_make (V := (UL.newC wd.heap.size #[.int .i64 4, .string ⟨nm.toArray⟩, .string ⟨#[]⟩, .int .i64 0, .slice none 0 0] 68).1) (by kernel_rfl) (by kernel_rfl) (fun w1 hC _ => ?_) (fun u5 ho5 => ?_)
      · obtain ⟨p, rfl⟩ := hC
        exact ⟨_, _, exec_op1 rfl rfl, up_alloc _ _, ⟨_, rfl⟩, ⟨_, rfl, p.ok.size, heap_alloc_new _ _⟩⟩
      obtain ⟨g5, rfl⟩ := ho5
      simp only [Act.put, List.setIfInBounds_toArray, List.set_cons_succ, List.set_cons_zero]
      intro we hC hK
      have k1 := hK 122 _ _ trivial (.inl (.inr ⟨rfl, rfl⟩)) rfl
      have k2 := hK 124 _ _ trivial (.inr ⟨rfl, rfl⟩) rfl
      have KO : Hid (we.ownsRow wd.heap.size 68 5 (.slice a4 qu.length c4') L.length (ocs L)) := by show World.ownsRow _ _ _ _ _ _ _; rw [HLL.out]; exact k1
      obtain ⟨g6, e6, hB6, hg6⟩ := k2
      cases e6
      have KR := Hid.mk' (one_row5 (.rem nm, .slice none 0 0) hg6 hB6 (by rfl))
      obtain ⟨p, hp⟩ := hC
      have HPW : Hid (Below wd.heap.size wd we) := by rw [hp]; exact p.ok
      clear hK k1 hg6 hB6 r1 s0 s1 s2 s3 s4 hp
      clear p
      refine app49 (L := L) (M := [(.rem nm, .slice none 0 0)]) rfl (.tmp 122) (.tmp 124) rfl rfl KO.out rfl KR.out (fun q hq => by obtain rfl := List.mem_singleton.1 hq; exact (bs_nil : Bs (fun _ => True) w _ _)) (by have := HQN.out; rw [HLL.out, List.length_singleton]; omega) (by exact HPW.out.size) ?_
      intro v5 w5 ho5 hg5
      have HO5 := Hid.mk' ho5
      have HB5 := Hid.mk' (below_app HPW.out KO.out hg5 (Nat.le_refl _) HPW.out.size)
      have HD7 := Hid.mk' (HD6.out.up HB5.out)
      clear ho5 hg5
      obtain ⟨a6, n6, c6, e6⟩ : ∃ p n d, v5 = .slice p n d := (let ⟨p, d, e⟩ := own_sliceN HO5.out; ⟨p, _, d, e⟩)
      subst e6
      obtain ⟨c0, c1, c2, c3, c4⟩ := box5 HD7.out.d
      have HZZ := HD7.out.z2
      obtain ⟨z0, z1, z2, z3, z4⟩ := box5 HZZ
      have hfz : ∀ j, w5.frozen? ⟨w.heap.size + 1 + 1, j, none⟩ = false := fun j => by simp only [World.frozen?, HZZ]; simp
      have hfd : ∀ j, w5.frozen? ⟨w.heap.size, j, none⟩ = false := fun j => by simp only [World.frozen?, HD7.out.d]; simp
      clear HZZ
      go_wp2_with fail
      have HD8 := Hid.mk' (HD7.out.setd 1 (.slice a6 n6 c6))
      obtain ⟨W9, hW9, h9, hb9⟩ := stored5 HD8.out.z2 (.slice a sf.length c) (.slice a6 n6 c6) (.int .i64 room) (.int .i64 a2) (.bool b2)
      rw [← hW9]
      clear hW9 c0 c1 c2 c3 c4 z0 z1 z2 z3 z4 hfz hfd
      obtain ⟨z0, z1, z2, z3, z4⟩ := box5 h9
      refine bodyPost_ret (v := .tuple #[.agg #[.slice a sf.length c, .slice a6 n6 c6, .int .i64 room, .int .i64 a2, .bool b2], .int .i64 f2]) (by simp [results, Try.results35, go_sem, z0, z1, z2, z3, z4]) rfl ⟨_, by rw [HQ3.out], ?_, HD8.out.bl.trans (hb9.below HD8.out.bl.size fun k hk => by omega)⟩
      rw [HQ4.out]
      have hwd : Wb (fun k => k = w.heap.size ∨ k = w.heap.size + 2) w5 W9 := ((Wb.set (X := fun k => k = w.heap.size) w5 w.heap.size 1 (.slice a6 n6 c6) rfl).mono fun k hk => .inl hk).trans (hb9.mono fun k hk => .inr hk)
      have hsz2 : w.heap.size + 2 < wd.heap.size := (Array.getElem?_eq_some_iff.1 HD6.out.z).1
      refine ⟨_, _, rfl, ((H1.out.up HD7.out.bl).wb hwd fun k hk hk2 => by have := hk2.2; omega).monoS fun k hk => .inl hk.1, ?_⟩
      have hos : Os (fun k => (A k ∧ k < w.heap.size) ∨ wd.heap.size ≤ k) w5 (.slice a6 n6 c6) (qu ++ [.rem nm]) := by
        refine ⟨L ++ [(.rem nm, .slice none 0 0)], by rw [List.map_append, HL.out]; rfl, (Row.of_ownB HO5.out).monoS fun k hk => .inr hk, fun q hq => ?_, by have := HQN.out; rw [List.length_append, HLL.out, List.length_singleton]; omega⟩
        rcases List.mem_append.1 hq with hq | hq
        · exact ((HEL.out q hq).up HB5.out).monoS fun k hk => .inl hk
        · obtain rfl := List.mem_singleton.1 hq
          exact bs_nil
      exact (hos.wb hwd fun k hk hk2 => by rcases hk2 with hk2 | hk2 <;> omega).monoS fun k hk => hk.elim (fun h => .inl h.1) fun h => .inr (Nat.le_trans HD6.out.bl.size h)
end Go.Proofs.Ytpgpncngamagdaa
