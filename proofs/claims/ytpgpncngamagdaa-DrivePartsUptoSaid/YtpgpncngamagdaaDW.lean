/- drive.raw, walked. -/
import Derived.Test.YtpgpncngamagdaaDR
set_option linter.unusedVariables false
set_option linter.unusedSimpArgs false
namespace Go.Proofs.Ytpgpncngamagdaa
open Go.RowKit
attribute [local go_sem ↓] Go.wp_at_zero Go.wp_at_succ
theorem DdIs.ifc {D : Nat → Prop} {w : World} {v : Value} {x : Dd} (h : DdIs D w v x) : ∃ t p, v = .iface t p := by
  cases x with
  | write n i l => obtain ⟨u, rfl, b, c⟩ := h; exact ⟨_, _, rfl⟩
  | trim => obtain ⟨rfl, _⟩ := h; exact ⟨_, _, rfl⟩
  | ren => obtain ⟨rfl, _⟩ := h; exact ⟨_, _, rfl⟩
  | rem => obtain ⟨rfl, _⟩ := h; exact ⟨_, _, rfl⟩
theorem exec_iface {w : World} {o : Oper} {a : Act} {x : Operand} {t : TypeId} {p : Value} (ho : o.op = .buildSlice 44 1 #[(0, x)]) (hx : a.eval x = .iface t p) :
    (execOp a.eval o).run Try.prog w = .ok (.value (.slice (some ⟨w.heap.size, 0, none⟩) 1 1)) (w.alloc (.cells #[.iface t p] 87)) := by
  unfold execOp
  simp only [ho, List.map_toArray, List.map_cons, List.map_nil, hx]
  simp [go_sem]
/-- a row of one thing, new -/
def UL.new1 (B : Nat) (v : Value) : UL := ⟨⟨fun u => ∃ g : Nat, u = .slice (some ⟨g, 0, none⟩) 1 1, fun u w => ∃ g : Nat, u = .slice (some ⟨g, 0, none⟩) 1 1 ∧ B ≤ g ∧ w.cell? ⟨g, 0, none⟩ = some v⟩,
  fun _ w w' ⟨g, h1, h2, h3⟩ hb => ⟨g, h1, h2, (hb.cell (p := ⟨g, 0, none⟩) (World.block_lt_of_cell? w ⟨g, 0, none⟩ h3)).trans h3⟩⟩
/-- a row, new -/
def UL.rowF (B n : Nat) (vs : List Value) : UL := ⟨⟨fun u => ∃ a c, u = .slice a n c, fun u w => Row 1 (fun k => B ≤ k) w u n vs⟩, fun _ w w' h hb => h.up hb⟩
def RawPost (M D : Nat → Prop) (w : World) (b : Nat) (d : Dm) (x : Dd) (e : Int) (E : Ending) (w' : World) : Prop := E = .returned (.int .i64 (rawE d e)) ∧ Turned M D w b (rawD d x e) w'
theorem DrIs.turned {M D : Nat → Prop} {w w' : World} {b : Nat} {d' : Dm} (h : DrIs M D w' b d') (hw : Wb (fun k => k = b) w w') : Turned M D w b d' w' := ⟨hw.mono fun k hk => .inl hk, M, D, fun _ h => .inl h, fun _ h => .inl h, h⟩
/-- behind may -/
theorem DrIs.may {M D : Nat → Prop} {w w1 : World} {b : Nat} {d d1 : Dm} {ms mv : Option Nat} {q : Value} (h : DrIs M D w b d) (h1 : FilesIs M D w ms d.safe) (h2 : FilesIs M D w mv d.seen) (h3 : QueueIs D w q d.queue) (h4 : ∀ k, ms = some k → mv ≠ some k) (hw : Wb (fun k => k = b) w w1)
    (hb : w1.heap[b]? = some (.cells #[.map ms, .map mv, q, .int .i64 d1.room, .bool d1.armed, .int .i64 d1.left, .bool d1.dead] 46 (0, 0))) (e1 : d1.safe = d.safe) (e2 : d1.seen = d.seen) (e3 : d1.queue = d.queue) (hl : d1.armed = true → 0 ≤ d1.left ∧ d1.left ≤ 9223372036854775807) : DrIs M D w1 b d1 := by
  have hX : ∀ k, k = b → ¬ D k := fun k hk hd => (h.hD k hd).2.2 hk
  have hm : ∀ {m : Option Nat} {F : Fl}, FilesIs M D w m F → ∀ k, m = some k → ¬ k = b := by
    intro m F hf k hk hx
    rcases hf with ⟨rfl, _⟩ | ⟨k', rfl, hk', _⟩
    · cases hk
    · cases hk; exact (h.hM _ hk').2 hx
  exact ⟨⟨ms, mv, q, hb, by rw [e1]; exact h1.wb hw hX (hm h1), by rw [e2]; exact h2.wb hw hX (hm h2), by rw [e3]; exact h3.wb hw hX, h4⟩, fun k hk => ⟨Nat.lt_of_lt_of_le (h.hD k hk).1 hw.size, (h.hD k hk).2⟩, fun k hk => ⟨Nat.lt_of_lt_of_le (h.hM k hk).1 hw.size, (h.hM k hk).2⟩, hl⟩
theorem mayD_safe (d : Dm) (e : Int) : (mayD d e).safe = d.safe ∧ (mayD d e).seen = d.seen ∧ (mayD d e).queue = d.queue := by
  unfold mayD; repeat' split
  all_goals exact ⟨rfl, rfl, rfl⟩
theorem mayD_left (d : Dm) (e : Int) (hl : d.armed = true → 0 ≤ d.left ∧ d.left ≤ 9223372036854775807) : (mayD d e).armed = true → 0 ≤ (mayD d e).left ∧ (mayD d e).left ≤ 9223372036854775807 := by
  unfold mayD; repeat' split
  all_goals first | exact hl | (intro h; have := hl h; simp only; omega)
theorem dm_eta (d1 : Dm) {d : Dm} (h : d1.safe = d.safe ∧ d1.seen = d.seen ∧ d1.queue = d.queue) : d1 = { d1 with safe := d.safe, seen := d.seen, queue := d.queue } := by
  obtain ⟨_, _, _, _, _, _, _⟩ := d1
  obtain ⟨rfl, rfl, rfl⟩ := h; rfl
set_option maxRecDepth 100000 in
set_option maxHeartbeats 4000000 in
/-- not done -/
theorem raw_not {M D : Nat → Prop} {w : World} {b : Nat} {d : Dm} (x : Dd) (v : Value) (e : Int) (h : DrIs M D w b d) (hn : ¬ (d.dead = false ∧ e = 0)) : Calls Try.prog 47 #[.pointer (some ⟨b, 0, none⟩), v, .int .i64 e] w (RawPost M D w b d x e) := by
  obtain ⟨ms, mv, q, hb, h1, h2, h3, h4⟩ := h.ex
  have hm := may_any e h.left hb
  have hR : mayR d e = (false, false, rawE d e) ∧ mayD d e = d := by
    unfold rawE mayR mayD
    cases hd : d.dead
    · have he : e ≠ 0 := fun he => hn ⟨hd, he⟩
      simp [he]
    · simp
  have hD : rawD d x e = d := by unfold rawD; rw [if_neg hn]
  rw [hR.1, hR.2] at hm
  simp only at hm
  have HD := Hid.mk' hD
  have HH := Hid.mk' h
  have HP := Hid.mk' (⟨h1, h2, h3, h4⟩ : FilesIs M D w ms d.safe ∧ FilesIs M D w mv d.seen ∧ QueueIs D w q d.queue ∧ ∀ k, ms = some k → mv ≠ some k)
  have HM := Hid.mk' hm
  clear hm hR hD hn h h1 h2 h3 h4 hb
  go_enter Try.func47, Try.ntmps47
  go_wp2_with (go_at_call 52; go_must (refine HM.out.mono ?_; rintro E w1 ⟨rfl, hW, hsz, hbx⟩))
  go_ret
  refine ⟨rfl, ?_⟩
  rw [HD.out]
  obtain ⟨h1, h2, h3, h4⟩ := HP.out
  exact (HH.out.may h1 h2 h3 h4 hW hbx rfl rfl rfl HH.out.left).turned hW
/-- the fresh map or the old -/
theorem rs_old {M D : Nat → Prop} {w w1 : World} {b mb : Nat} {d1 : Dm} {x : Dd} {v q : Value} {ms : Option Nat} (h : DrIs M D w1 b d1) (hb : w1.heap[b]? = some (.cells #[.map ms, .map (some mb), q, .int .i64 d1.room, .bool d1.armed, .int .i64 d1.left, .bool d1.dead] 46 (0, 0)))
    (hw : Wb (fun k => k = b) w w1) (hsz : w1.heap.size = w.heap.size) (h1 : FilesIs M D w1 ms d1.safe) (h2 : FilesIs M D w1 (some mb) d1.seen) (h3 : QueueIs D w1 q d1.queue) (h4 : ∀ k, ms = some k → some mb ≠ some k) (hv : DdIs D w1 v x) : Rs M D w b d1 x v D ms mb q w1 := by
  obtain ⟨k', e1, e2, e3⟩ : ∃ k, some mb = some k ∧ M k ∧ FI D w1 k d1.seen := by
    rcases h2 with ⟨e, _⟩ | h
    · cases e
    · exact h
  cases e1
  refine ⟨hw.mono fun k hk => .inl hk, hb, e3, h1, h3, hv, .inl e2, ⟨(h.hM _ e2).2, fun e => h4 _ e rfl, fun hd => (h.hD _ hd).2.1 e2⟩, fun k hk => ⟨(h.hD k hk).1, (h.hD k hk).2.2, .inl hk⟩, fun k hk => (h.hD k hk).2.1, fun k hk => ⟨by rw [← hsz]; exact (h.hM k hk).1, (h.hM k hk).2⟩, by rw [← hsz]; exact (Array.getElem?_eq_some_iff.1 hb).1⟩
theorem rs_new {M D : Nat → Prop} {w w1 : World} {b : Nat} {d1 : Dm} {x : Dd} {v q : Value} {ms : Option Nat} (h : DrIs M D w1 b d1) (hb : w1.heap[b]? = some (.cells #[.map ms, .map none, q, .int .i64 d1.room, .bool d1.armed, .int .i64 d1.left, .bool d1.dead] 46 (0, 0)))
    (hw : Wb (fun k => k = b) w w1) (hsz : w1.heap.size = w.heap.size) (h1 : FilesIs M D w1 ms d1.safe) (h2 : FilesIs M D w1 none d1.seen) (h3 : QueueIs D w1 q d1.queue) (hv : DdIs D w1 v x) : Rs M D w b d1 x v D ms w1.heap.size q ((w1.setCell ⟨b, 1, none⟩ (.map (some w1.heap.size))).alloc (.map #[] 0)) := by
  have hF : d1.seen = [] := by
    rcases h2 with ⟨_, e⟩ | ⟨k, e, _⟩
    · exact e
    · cases e
  have hbl : b < w1.heap.size := (Array.getElem?_eq_some_iff.1 hb).1
  have hw2 : Wb (fun k => k = b) w1 ((w1.setCell ⟨b, 1, none⟩ (.map (some w1.heap.size))).alloc (.map #[] 0)) := (Wb.set (X := fun k => k = b) w1 b 1 _ rfl).trans (Wb.of_below _ (up_alloc _ _))
  have hs2 : ((w1.setCell ⟨b, 1, none⟩ (.map (some w1.heap.size))).alloc (.map #[] 0)).heap.size = w1.heap.size + 1 := by simp [World.setCell]
  have hX : ∀ k, k = b → ¬ D k := fun k hk hd => (h.hD k hd).2.2 hk
  have hmS : ∀ k, ms = some k → M k := by
    intro k hk
    rcases h1 with ⟨e, _⟩ | ⟨k', e, hm, _⟩
    · rw [e] at hk; cases hk
    · rw [e] at hk; cases hk; exact hm
  refine ⟨(hw.trans hw2).mono fun k hk => .inl hk, ?_, ⟨by rw [hF]; exact Srt.nil, (fun _ => none), ?_, fun s => .inl ⟨rfl, by rw [hF]; rfl⟩⟩, h1.wb hw2 hX fun k hk => (h.hM k (hmS k hk)).2, h3.wb hw2 hX, hv.wb hw2 hX, .inr (by omega), ⟨by omega, fun e => by have := (h.hM _ (hmS _ e)).1; omega, fun hd => by have := (h.hD _ hd).1; omega⟩, fun k hk => ⟨by rw [hs2]; have := (h.hD k hk).1; omega, (h.hD k hk).2.2, .inl hk⟩, fun k hk => (h.hD k hk).2.1, fun k hk => ⟨by rw [← hsz]; exact (h.hM k hk).1, (h.hM k hk).2⟩, by rw [← hsz]; exact hbl⟩
  · rw [Below.heap_alloc _ _ _ (by rw [size_setCell]; exact hbl), box7_set hb]; rfl
  · rw [hF]
    have := MapF.made Try.prog 9 (w1.setCell ⟨b, 1, none⟩ (.map (some w1.heap.size)))
    rw [size_setCell] at this; exact this
set_option maxRecDepth 100000 in
set_option maxHeartbeats 4000000 in
/-- done -/
theorem raw_do {M D : Nat → Prop} {w : World} {b : Nat} {d : Dm} (x : Dd) (v : Value) (h : DrIs M D w b d) (hv : DdIs D w v x) (hd : d.dead = false) (hok : Dok d.seen x) (hl : d.seen.length + 1 < maxLen) (hq : (d.queue.length + 1) * 16 ≤ 140737488355328) :
    Calls Try.prog 47 #[.pointer (some ⟨b, 0, none⟩), v, .int .i64 0] w (RawPost M D w b d x 0) := by
  obtain ⟨ms, mv, q, hb, h1, h2, h3, h4⟩ := h.ex
  have hm := may_any 0 h.left hb
  obtain ⟨kd, hR⟩ : ∃ kd : Bool, mayR d 0 = (kd, !kd, rawE d 0) := by
    unfold rawE mayR
    rw [hd]
    by_cases hk : d.armed ∧ d.left = 0
    · exact ⟨false, by simp [hk]⟩
    · exact ⟨true, by simp [hk]⟩
  obtain ⟨e1, e2, e3⟩ := mayD_safe d 0
  have hD : rawD d x 0 = { mayD d 0 with seen := ddo (mayD d 0).seen x x.units, queue := (mayD d 0).queue ++ [x] } := by unfold rawD; rw [if_pos ⟨hd, rfl⟩, e2, e3]
  have hml := mayD_left d 0 h.left
  obtain ⟨d1, hd1⟩ : ∃ d1, d1 = mayD d 0 := ⟨_, rfl⟩
  rw [hR] at hm
  simp only [← hd1] at hm hD e1 e2 e3 hml
  rw [← e2] at hok hl
  rw [← e3] at hq
  have HH := Hid.mk' (fun w1 hW hbx => h.may (w1 := w1) (d1 := d1) h1 h2 h3 h4 hW hbx e1 e2 e3 hml)
  have HP := Hid.mk' (⟨h1, h2, h3, h4, hv⟩ : FilesIs M D w ms d.safe ∧ FilesIs M D w mv d.seen ∧ QueueIs D w q d.queue ∧ (∀ k, ms = some k → mv ≠ some k) ∧ DdIs D w v x)
  have HE := Hid.mk' (⟨e1, e2, e3⟩ : d1.safe = d.safe ∧ d1.seen = d.seen ∧ d1.queue = d.queue)
  have HX := Hid.mk' (⟨fun k hk hd => (h.hD k hd).2.2 hk, fun k hk => (h.hM k hk).2⟩ : (∀ k, k = b → ¬ D k) ∧ ∀ k, M k → k ≠ b)
  have HM := Hid.mk' hm
  have HD := Hid.mk' hD
  have HO := Hid.mk' hok
  have HL := Hid.mk' hl
  have HQ := Hid.mk' hq
  have HML := Hid.mk' hml
  unfold RawPost
  generalize rawE d 0 = re at *
  clear hm hR hD h h1 h2 h3 h4 hb hd hok hl hq e1 e2 e3 hml hv hd1
  have hmm := @run_makeMap Try.prog
  have hmn := fun w r => run_eql_map_nil (P := Try.prog) w 43 9 22 r Try.underlying43
  go_enter Try.func47, Try.ntmps47
  go_wp2_with fail
  refine HM.out.mono ?_
  rintro E w1 ⟨rfl, hW, hsz, hbx⟩
  have HDr := Hid.mk' (HH.out w1 hW hbx)
  have HW := Hid.mk' hW
  have HS := Hid.mk' hsz
  have HB := Hid.mk' hbx
  have HPP : Hid (FilesIs M D w1 ms d1.safe ∧ FilesIs M D w1 mv d1.seen ∧ QueueIs D w1 q d1.queue ∧ (∀ k, ms = some k → mv ≠ some k) ∧ DdIs D w1 v x) := by
    obtain ⟨h1, h2, h3, h4, h5⟩ := HP.out
    obtain ⟨x1, x2⟩ := HX.out
    obtain ⟨e1, e2, e3⟩ := HE.out
    have hm : ∀ {m : Option Nat} {F : Fl}, FilesIs M D w m F → ∀ k, m = some k → ¬ k = b := by
      intro m F hf k hk hx
      rcases hf with ⟨rfl, _⟩ | ⟨k', rfl, hk', _⟩
      · cases hk
      · cases hk; exact x2 _ hk' hx
    rw [← e1] at h1; rw [← e2] at h2; rw [← e3] at h3
    exact ⟨h1.wb hW x1 (hm h1), h2.wb hW x1 (hm h2), h3.wb hW x1, h4, h5.wb hW x1⟩
  clear hW hsz hbx HM HH HP
  obtain ⟨⟨c0, c1, c2, c3, c4, c5, c6⟩, c7⟩ := box7 HB.out
  clear c0 c2 c3 c4 c5 c6
  cases kd
  all_goals
    go_upto_if 24 with fail
    go_cut [3] (fun _ wx => ∃ mb, Hid (Rs M D w b d1 x v D ms mb q wx))
    case first =>
      cases mv with
      | none =>
        have hR := rs_new HDr.out HB.out HW.out HS.out HPP.out.1 HPP.out.2.1 HPP.out.2.2.1 HPP.out.2.2.2.2
        have HR := Hid.mk' hR
        have hbl : b < w1.heap.size := (Array.getElem?_eq_some_iff.1 HB.out).1
        have hbx2 : (w1.alloc (.map #[] 0)).heap[b]? = w1.heap[b]? := Below.heap_alloc _ _ _ hbl
        rw [HB.out] at hbx2
        obtain ⟨⟨k0, k1, k2, k3, k4, k5, k6⟩, k7⟩ := box7 hbx2
        clear k0 k2 k3 k4 k5 k6 hbx2
        clear hR
        go_wp2_with fail
        go_meet
        exact ⟨_, HR⟩
      | some mb =>
        have hR := rs_old HDr.out HB.out HW.out HS.out HPP.out.1 HPP.out.2.1 HPP.out.2.2.1 HPP.out.2.2.2.1 HPP.out.2.2.2.2
        have HR := Hid.mk' hR
        clear hR
        go_wp2_with fail
        go_meet
        exact ⟨_, HR⟩
    case rest =>
      obtain ⟨mb, HR⟩ := hcut
      clear c1 c7 HB HDr HPP HW HS HE
      go_upto_region 5 with fail
      go_cut [3] (fun _ wx => ∃ D', Hid (Rs M D w b { d1 with seen := ddo d1.seen x x.units } x v D' ms mb q wx))
      case first =>
        obtain ⟨⟨c0, c1, c2, c3, c4, c5, c6⟩, c7⟩ := box7 HR.out.bx
        clear c0 c2 c3 c4 c5 c6 c7
        have r0 : ∀ q : Ups wc, q.nx.cell? ⟨b, 1, none⟩ = some (.map (some mb)) := fun p => (box7 (by rw [p.ok.block b (Array.getElem?_eq_some_iff.1 HR.out.bx).1]; exact HR.out.bx)).1.2.1
        clear c1
        cases x with
        | write n i l =>
          obtain ⟨u, rfl, hu, hnl⟩ := HR.out.dd
          have HUU := Hid.mk' hu
          clear hu
          refine wp_region_free 10 Up (fun w' => ∃ p : Ups wc, w' = p.nx) (ul [(31, UL.is (.pointer (some ⟨b, 0, none⟩))), (35, UL.is (.int .i64 ((l.length : Int) + 1))), (37, UL.is (.func (.method "groyne/drive.do") #[.iface 90 (.agg #[.string ⟨n.toArray⟩, .int .i64 (i : Int), u])] #[]))]) (by kernel_rfl) (by kernel_rfl) (ul_ck _) (up_first wc) ?_
          simp only [List.take_succ_cons, List.take_zero, List.drop_succ_cons, List.drop_zero]
          refine wf_take 2 rfl ?_
          simp only [List.take_succ_cons, List.take_zero, List.drop_succ_cons, List.drop_zero]
          repeat (go_big_quiet_step (fail))
          refine wpQuiet_nil ?_
          refine wf_nil rfl rfl (by kernel_rfl) rfl (fun w => Below.refl _ _) ?_
          simp only [Act.put, List.setIfInBounds_toArray, List.set_cons_succ, List.set_cons_zero]
          refine wf_take 3 rfl ?_
          simp only [List.take_succ_cons, List.take_zero, List.drop_succ_cons, List.drop_zero]
          repeat (go_big_quiet_step (fail))
          refine wpQuiet_nil ?_
          refine wf_enter (f := 125) (vals := #[.agg #[.string ⟨n.toArray⟩, .int .i64 (i : Int), u]]) (by kernel_rfl) rfl (fun w => by kernel_rfl) (fun wq hC hK => (un_write n i u l wq (by obtain ⟨p, rfl⟩ := hC; exact HUU.out.up p.ok)).mono fun e w' ⟨h1, h2⟩ => ⟨_, h1, h2, rfl, trivial⟩) (fun u1 hu1 => ?_)
          cases hu1
          simp only [Act.put, List.setIfInBounds_toArray, List.set_cons_succ, List.set_cons_zero]
          refine wf_take 1 rfl ?_
          simp only [List.take_succ_cons, List.take_zero, List.drop_succ_cons, List.drop_zero]
          repeat (go_big_quiet_step (fail))
          refine wpQuiet_nil ?_
          refine wf_make (V := (UL.is (.func (.method "groyne/drive.do") #[.iface 90 (.agg #[.string ⟨n.toArray⟩, .int .i64 (i : Int), u])] #[])).1) (by kernel_rfl) rfl (fun wq hC hK => ⟨_, wq, rfl, Below.refl _ _, rfl, trivial⟩) (fun u1 hu1 => ?_)
          cases hu1
          simp only [Act.put, List.setIfInBounds_toArray, List.set_cons_succ, List.set_cons_zero]
          refine wf_take 1 rfl ?_
          simp only [List.take_succ_cons, List.take_zero, List.drop_succ_cons, List.drop_zero]
          repeat (go_big_quiet_step (fail))
          refine wpQuiet_nil ?_
          intro wd hC hK
          obtain ⟨p, hp⟩ := hC
          have HU := Hid.mk' (HR.out.up p.ok)
          rw [← hp] at HU
          clear hp hK r0
          clear p
          go_wp2_with fail
          refine (do_write n l i l.length u _ HU.out.fi hnl HU.out.mbn.2.2 (by obtain ⟨u2, e, h, _⟩ := HU.out.dd; cases e; exact h) (Nat.le_refl _) rfl HO.out.1 HO.out.2.2 (by have := HL.out; show d1.seen.length < maxLen; omega)).mono ?_
          rintro E w2 hp
          obtain ⟨D', hR⟩ := HU.out.did hp
          cases hp.1
          have HR2 := Hid.mk' hR
          clear hp hR
          go_wp2_with fail
          go_meet
          exact ⟨D', HR2⟩
        | trim n k =>
          obtain ⟨rfl, hnl⟩ := HR.out.dd
          refine wp_region_free 10 Up (fun w' => ∃ p : Ups wc, w' = p.nx) (ul [(31, UL.is (.pointer (some ⟨b, 0, none⟩))), (35, UL.is (.int .i64 1)), (37, UL.is (.func (.method "groyne/drive.do") #[.iface 119 (.agg #[.string ⟨n.toArray⟩, .int .i64 (k : Int)])] #[]))]) (by kernel_rfl) (by kernel_rfl) (ul_ck _) (up_first wc) ?_
          simp only [List.take_succ_cons, List.take_zero, List.drop_succ_cons, List.drop_zero]
          refine wf_take 2 rfl ?_
          simp only [List.take_succ_cons, List.take_zero, List.drop_succ_cons, List.drop_zero]
          repeat (go_big_quiet_step (fail))
          refine wpQuiet_nil ?_
          refine wf_nil rfl rfl (by kernel_rfl) rfl (fun w => Below.refl _ _) ?_
          simp only [Act.put, List.setIfInBounds_toArray, List.set_cons_succ, List.set_cons_zero]
          refine wf_take 3 rfl ?_
          simp only [List.take_succ_cons, List.take_zero, List.drop_succ_cons, List.drop_zero]
          repeat (go_big_quiet_step (fail))
          refine wpQuiet_nil ?_
          refine wf_enter (f := 127) (vals := #[.agg #[.string ⟨n.toArray⟩, .int .i64 (k : Int)]]) (by kernel_rfl) rfl (fun w => by kernel_rfl) (fun wq hC hK => (un_trim n k wq).mono fun e w' ⟨h1, h2⟩ => ⟨_, h1, h2, rfl, trivial⟩) (fun u1 hu1 => ?_)
          cases hu1
          simp only [Act.put, List.setIfInBounds_toArray, List.set_cons_succ, List.set_cons_zero]
          refine wf_take 1 rfl ?_
          simp only [List.take_succ_cons, List.take_zero, List.drop_succ_cons, List.drop_zero]
          repeat (go_big_quiet_step (fail))
          refine wpQuiet_nil ?_
          refine wf_make (V := (UL.is (.func (.method "groyne/drive.do") #[.iface 119 (.agg #[.string ⟨n.toArray⟩, .int .i64 (k : Int)])] #[])).1) (by kernel_rfl) rfl (fun wq hC hK => ⟨_, wq, rfl, Below.refl _ _, rfl, trivial⟩) (fun u1 hu1 => ?_)
          cases hu1
          simp only [Act.put, List.setIfInBounds_toArray, List.set_cons_succ, List.set_cons_zero]
          refine wf_take 1 rfl ?_
          simp only [List.take_succ_cons, List.take_zero, List.drop_succ_cons, List.drop_zero]
          repeat (go_big_quiet_step (fail))
          refine wpQuiet_nil ?_
          intro wd hC hK
          obtain ⟨p, hp⟩ := hC
          have HU := Hid.mk' (HR.out.up p.ok)
          rw [← hp] at HU
          clear hp hK r0
          clear p
          go_wp2_with fail
          refine (do_trim n k _ HU.out.fi hnl HU.out.mbn.2.2 (by have := HL.out; show d1.seen.length < maxLen; omega) HO.out).mono ?_
          rintro E w2 hp
          obtain ⟨D', hR⟩ := HU.out.did hp
          cases hp.1
          have HR2 := Hid.mk' hR
          clear hp hR
          go_wp2_with fail
          go_meet
          exact ⟨D', HR2⟩
        | ren n m =>
          obtain ⟨rfl, hnl, hml⟩ := HR.out.dd
          refine wp_region_free 10 Up (fun w' => ∃ p : Ups wc, w' = p.nx) (ul [(31, UL.is (.pointer (some ⟨b, 0, none⟩))), (35, UL.is (.int .i64 1)), (37, UL.is (.func (.method "groyne/drive.do") #[.iface 121 (.agg #[.string ⟨n.toArray⟩, .string ⟨m.toArray⟩])] #[]))]) (by kernel_rfl) (by kernel_rfl) (ul_ck _) (up_first wc) ?_
          simp only [List.take_succ_cons, List.take_zero, List.drop_succ_cons, List.drop_zero]
          refine wf_take 2 rfl ?_
          simp only [List.take_succ_cons, List.take_zero, List.drop_succ_cons, List.drop_zero]
          repeat (go_big_quiet_step (fail))
          refine wpQuiet_nil ?_
          refine wf_nil rfl rfl (by kernel_rfl) rfl (fun w => Below.refl _ _) ?_
          simp only [Act.put, List.setIfInBounds_toArray, List.set_cons_succ, List.set_cons_zero]
          refine wf_take 3 rfl ?_
          simp only [List.take_succ_cons, List.take_zero, List.drop_succ_cons, List.drop_zero]
          repeat (go_big_quiet_step (fail))
          refine wpQuiet_nil ?_
          refine wf_enter (f := 129) (vals := #[.agg #[.string ⟨n.toArray⟩, .string ⟨m.toArray⟩]]) (by kernel_rfl) rfl (fun w => by kernel_rfl) (fun wq hC hK => (un_ren n m wq).mono fun e w' ⟨h1, h2⟩ => ⟨_, h1, h2, rfl, trivial⟩) (fun u1 hu1 => ?_)
          cases hu1
          simp only [Act.put, List.setIfInBounds_toArray, List.set_cons_succ, List.set_cons_zero]
          refine wf_take 1 rfl ?_
          simp only [List.take_succ_cons, List.take_zero, List.drop_succ_cons, List.drop_zero]
          repeat (go_big_quiet_step (fail))
          refine wpQuiet_nil ?_
          refine wf_make (V := (UL.is (.func (.method "groyne/drive.do") #[.iface 121 (.agg #[.string ⟨n.toArray⟩, .string ⟨m.toArray⟩])] #[])).1) (by kernel_rfl) rfl (fun wq hC hK => ⟨_, wq, rfl, Below.refl _ _, rfl, trivial⟩) (fun u1 hu1 => ?_)
          cases hu1
          simp only [Act.put, List.setIfInBounds_toArray, List.set_cons_succ, List.set_cons_zero]
          refine wf_take 1 rfl ?_
          simp only [List.take_succ_cons, List.take_zero, List.drop_succ_cons, List.drop_zero]
          repeat (go_big_quiet_step (fail))
          refine wpQuiet_nil ?_
          intro wd hC hK
          obtain ⟨p, hp⟩ := hC
          have HU := Hid.mk' (HR.out.up p.ok)
          rw [← hp] at HU
          clear hp hK r0
          clear p
          go_wp2_with fail
          refine (do_ren n m _ HU.out.fi hnl hml HU.out.mbn.2.2 (by have := HL.out; show d1.seen.length < maxLen; omega)).mono ?_
          rintro E w2 hp
          obtain ⟨D', hR⟩ := HU.out.did hp
          cases hp.1
          have HR2 := Hid.mk' hR
          clear hp hR
          go_wp2_with fail
          go_meet
          exact ⟨D', HR2⟩
        | rem n =>
          obtain ⟨rfl, hnl⟩ := HR.out.dd
          refine wp_region_free 10 Up (fun w' => ∃ p : Ups wc, w' = p.nx) (ul [(31, UL.is (.pointer (some ⟨b, 0, none⟩))), (35, UL.is (.int .i64 1)), (37, UL.is (.func (.method "groyne/drive.do") #[.iface 123 (.agg #[.string ⟨n.toArray⟩])] #[]))]) (by kernel_rfl) (by kernel_rfl) (ul_ck _) (up_first wc) ?_
          simp only [List.take_succ_cons, List.take_zero, List.drop_succ_cons, List.drop_zero]
          refine wf_take 2 rfl ?_
          simp only [List.take_succ_cons, List.take_zero, List.drop_succ_cons, List.drop_zero]
          repeat (go_big_quiet_step (fail))
          refine wpQuiet_nil ?_
          refine wf_nil rfl rfl (by kernel_rfl) rfl (fun w => Below.refl _ _) ?_
          simp only [Act.put, List.setIfInBounds_toArray, List.set_cons_succ, List.set_cons_zero]
          refine wf_take 3 rfl ?_
          simp only [List.take_succ_cons, List.take_zero, List.drop_succ_cons, List.drop_zero]
          repeat (go_big_quiet_step (fail))
          refine wpQuiet_nil ?_
          refine wf_enter (f := 131) (vals := #[.agg #[.string ⟨n.toArray⟩]]) (by kernel_rfl) rfl (fun w => by kernel_rfl) (fun wq hC hK => (un_rem n wq).mono fun e w' ⟨h1, h2⟩ => ⟨_, h1, h2, rfl, trivial⟩) (fun u1 hu1 => ?_)
          cases hu1
          simp only [Act.put, List.setIfInBounds_toArray, List.set_cons_succ, List.set_cons_zero]
          refine wf_take 1 rfl ?_
          simp only [List.take_succ_cons, List.take_zero, List.drop_succ_cons, List.drop_zero]
          repeat (go_big_quiet_step (fail))
          refine wpQuiet_nil ?_
          refine wf_make (V := (UL.is (.func (.method "groyne/drive.do") #[.iface 123 (.agg #[.string ⟨n.toArray⟩])] #[])).1) (by kernel_rfl) rfl (fun wq hC hK => ⟨_, wq, rfl, Below.refl _ _, rfl, trivial⟩) (fun u1 hu1 => ?_)
          cases hu1
          simp only [Act.put, List.setIfInBounds_toArray, List.set_cons_succ, List.set_cons_zero]
          refine wf_take 1 rfl ?_
          simp only [List.take_succ_cons, List.take_zero, List.drop_succ_cons, List.drop_zero]
          repeat (go_big_quiet_step (fail))
          refine wpQuiet_nil ?_
          intro wd hC hK
          obtain ⟨p, hp⟩ := hC
          have HU := Hid.mk' (HR.out.up p.ok)
          rw [← hp] at HU
          clear hp hK r0
          clear p
          go_wp2_with fail
          refine (do_rem n _ HU.out.fi hnl HU.out.mbn.2.2).mono ?_
          rintro E w2 hp
          obtain ⟨D', hR⟩ := HU.out.did hp
          cases hp.1
          have HR2 := Hid.mk' hR
          clear hp hR
          go_wp2_with fail
          go_meet
          exact ⟨D', HR2⟩
      case rest =>
        obtain ⟨D', HR⟩ := hcut
        obtain ⟨vs, hrow, hel⟩ := HR.out.qu
        obtain ⟨tv, pv, rfl⟩ := HR.out.dd.ifc
        have hvl : vs.length = d1.queue.length := by have := hrow.1; simp at this; omega
        obtain ⟨_, qa, qc, rfl, hqc, _⟩ := id hrow
        obtain ⟨a', hsl, hrow'⟩ := row_hm un44 sz44 hrow _ (Nat.le_refl _)
        rw [List.take_of_length_le (by simp; omega)] at hrow'
        have r2 : ∀ q : Ups wc, q.nx.cell? ⟨b, 2, none⟩ = some (.slice qa d1.queue.length qc) := fun p => (box7 (by rw [p.ok.block b (Array.getElem?_eq_some_iff.1 HR.out.bx).1]; exact HR.out.bx)).1.2.2.1
        have HEL := Hid.mk' hel
        have HVL := Hid.mk' hvl
        have HRW : Hid (Row 1 D' wc (.slice a' d1.queue.length d1.queue.length) d1.queue.length vs) := hrow'
        have hsl : ∀ w, (Instr.slice 44 (.slice qa d1.queue.length qc) none (some (.int .i64 (d1.queue.length : Int))) (some (.int .i64 (d1.queue.length : Int)))).run Try.prog w = .ok (.slice a' d1.queue.length d1.queue.length) w := hsl
        clear hel hvl hrow hrow'
        have hql : (d1.queue.length : Int) ≤ 140737488355328 := by have := HQ.out; omega
        go_upto_region 6 with fail
        refine wp_region_free 19 Up (fun w' => ∃ p : Ups wc, w' = p.nx) (ul [(42, UL.is (.pointer (some ⟨b, 0, none⟩))), (46, UL.is (.pointer (some ⟨b, 0, none⟩))), (51, UL.is (.pointer (some ⟨b, 0, none⟩))), (57, UL.new1 wc.heap.size (.iface tv pv)), (58, UL.rowF wc.heap.size (d1.queue.length + 1) (vs ++ [.iface tv pv]))]) (by kernel_rfl) (by kernel_rfl) (ul_ck _) (up_first wc) ?_
        simp only [List.take_succ_cons, List.take_zero, List.drop_succ_cons, List.drop_zero]
        refine wf_take 2 rfl ?_
        simp only [List.take_succ_cons, List.take_zero, List.drop_succ_cons, List.drop_zero]
        repeat (go_big_quiet_step (fail))
        refine wpQuiet_nil ?_
        refine wf_nil rfl rfl (by kernel_rfl) rfl (fun w => Below.refl _ _) ?_
        simp only [Act.put, List.setIfInBounds_toArray, List.set_cons_succ, List.set_cons_zero]
        refine wf_take 3 rfl ?_
        simp only [List.take_succ_cons, List.take_zero, List.drop_succ_cons, List.drop_zero]
        repeat (go_big_quiet_step (fail))
        refine wpQuiet_nil ?_
        refine wf_nil rfl rfl (by kernel_rfl) rfl (fun w => Below.refl _ _) ?_
        simp only [Act.put, List.setIfInBounds_toArray, List.set_cons_succ, List.set_cons_zero]
        refine wf_take 4 rfl ?_
        simp only [List.take_succ_cons, List.take_zero, List.drop_succ_cons, List.drop_zero]
        repeat (go_big_quiet_step (fail))
        refine wpQuiet_nil ?_
        refine wf_nil rfl rfl (by kernel_rfl) rfl (fun w => Below.refl _ _) ?_
        simp only [Act.put, List.setIfInBounds_toArray, List.set_cons_succ, List.set_cons_zero]
        refine wf_take 5 rfl ?_
        simp only [List.take_succ_cons, List.take_zero, List.drop_succ_cons, List.drop_zero]
        repeat (go_big_quiet_step (fail))
        refine wpQuiet_nil ?_
        refine wf_make (V := (UL.new1 wc.heap.size (.iface tv pv)).1) (by kernel_rfl) rfl (fun wq hC hK => ?_) (fun u1 hu1 => ?_)
        · obtain ⟨p, rfl⟩ := hC
          exact ⟨_, _, exec_iface rfl rfl, up_alloc _ _, ⟨_, rfl⟩, _, rfl, p.ok.size, by simp⟩
        obtain ⟨g1, rfl⟩ := hu1
        simp only [Act.put, List.setIfInBounds_toArray, List.set_cons_succ, List.set_cons_zero]
        refine wf_app (V := (UL.rowF wc.heap.size (d1.queue.length + 1) (vs ++ [.iface tv pv])).1) (v := .slice a' d1.queue.length d1.queue.length) (u := .slice (some ⟨g1, 0, none⟩) 1 1) rfl rfl rfl (by kernel_rfl) rfl (fun wq hC hK => ?_) (fun u2 hu2 => ?_)
        · obtain ⟨g2, e2, hg2, hcg⟩ := hK 57 _ _ (looks_of (by kernel_rfl)) (.inr ⟨rfl, rfl⟩) rfl
          cases e2
          obtain ⟨p, rfl⟩ := hC
          obtain ⟨v', w', e1, ho, hbl⟩ := app_full 44 (HRW.out.up p.ok) hcg rfl HQ.out
          refine ⟨v', w', e1, hbl, own_sliceN ho, ?_⟩
          exact (Row.of_ownB ho).monoS fun k hk => Nat.le_trans p.ok.size hk
        obtain ⟨a8, c8, rfl⟩ := hu2
        simp only [Act.put, List.setIfInBounds_toArray, List.set_cons_succ, List.set_cons_zero]
        intro wd hC hK
        have HK8 := Hid.mk' (hK 58 _ _ trivial (.inr ⟨rfl, rfl⟩) rfl)
        obtain ⟨p, hp⟩ := hC
        have HBL := Hid.mk' p.ok
        rw [← hp] at HBL
        clear hK hp r2
        clear p
        obtain ⟨⟨c0, c1, c2, c3, c4, c5, c6⟩, c7⟩ := box7 (by rw [HBL.out.block b (Array.getElem?_eq_some_iff.1 HR.out.bx).1]; exact HR.out.bx)
        clear c0 c1 c3 c4 c5 c6
        have HT : Hid (Turned M D w b (rawD d x 0) (wd.setCell ⟨b, 2, none⟩ (.slice a8 (d1.queue.length + 1) c8))) := by
          show Turned _ _ _ _ _ _
          rw [HD.out]
          exact HR.out.done HML.out HEL.out HVL.out HK8.out HBL.out
        clear HR HK8 HBL HEL HVL HRW
        go_wp2_with fail
        go_ret
        exact ⟨rfl, HT.out⟩
/-- drive.raw -/
theorem raw_any {M D : Nat → Prop} {w : World} {b : Nat} {d : Dm} (x : Dd) (v : Value) (e : Int) (h : DrIs M D w b d) (hv : DdIs D w v x) (hok : d.dead = false → e = 0 → Dok d.seen x) (hl : d.seen.length + 1 < maxLen) (hq : (d.queue.length + 1) * 16 ≤ 140737488355328) :
    Calls Try.prog 47 #[.pointer (some ⟨b, 0, none⟩), v, .int .i64 e] w (RawPost M D w b d x e) := by
  by_cases hn : d.dead = false ∧ e = 0
  · obtain ⟨h1, rfl⟩ := hn
    exact raw_do x v h hv h1 (hok h1 rfl) hl hq
  · exact raw_not x v e h hn
end Go.Proofs.Ytpgpncngamagdaa
