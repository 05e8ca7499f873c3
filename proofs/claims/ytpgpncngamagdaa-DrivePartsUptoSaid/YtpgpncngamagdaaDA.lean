/- groynelaw04.awake: a fixed fact. -/
import Derived.Test.YtpgpncngamagdaaDC
set_option linter.unusedVariables false
set_option linter.unusedSimpArgs false
namespace Go.Proofs.Ytpgpncngamagdaa
open Go.RowKit
attribute [local go_sem ↓] Go.wp_at_zero Go.wp_at_succ
/-- drive.Queue -/
theorem queue_any {M D : Nat → Prop} {w : World} {b : Nat} {d : Dm} (h : DrIs M D w b d) : Calls Try.prog 34 #[.pointer (some ⟨b, 0, none⟩)] w fun E w' => E = .returned (.int .i64 (d.queue.length : Int)) ∧ w = w' := by
  obtain ⟨ms, mv, q, hb, h1, h2, h3, h4⟩ := h.ex
  obtain ⟨⟨c0, c1, c2, c3, c4, c5, c6⟩, c7⟩ := box7 hb
  obtain ⟨qa, qc, rfl⟩ : ∃ qa qc, q = .slice qa d.queue.length qc := by obtain ⟨vs, hr, _⟩ := h3; obtain ⟨_, a, c, e, _⟩ := hr; exact ⟨a, c, e⟩
  clear h h1 h2 h3 h4 hb c0 c1 c3 c4 c5 c6
  go_enter Try.func34, Try.ntmps34
  go_wp2
  go_ret
  exact ⟨rfl, rfl⟩
/-- a drive of the call's own, made from block B on -/
def Aw (B : Nat) (w0 : World) (b : Nat) (d : Dm) (w : World) : Prop := ∃ M D : Nat → Prop, DrIs M D w b d ∧ Below B w0 w ∧ (∀ k, M k → B ≤ k) ∧ B ≤ b ∧ B ≤ w.heap.size
theorem Aw.up {B b : Nat} {w0 w w' : World} {d : Dm} (h : Aw B w0 b d w) (hb : Below w.heap.size w w') : Aw B w0 b d w' := by
  obtain ⟨M, D, h1, h2, h3, h4, h5⟩ := h
  exact ⟨M, D, h1.below hb, h2.trans (hb.mono h5), h3, h4, Nat.le_trans h5 hb.size⟩
theorem Aw.turn {B b : Nat} {w0 w w' : World} {d' : Dm} {M D : Nat → Prop} (h2 : Below B w0 w) (h3 : ∀ k, M k → B ≤ k) (h4 : B ≤ b) (h5 : B ≤ w.heap.size) (ht : Turned M D w b d' w') : Aw B w0 b d' w' := by
  obtain ⟨hw, M', D', k1, k2, k3⟩ := ht
  exact ⟨M', D', k3, h2.trans (hw.below h5 fun k hk => hk.elim (fun e => by rw [e]; exact h4) (h3 k)), fun k hk => (k1 k hk).elim (h3 k) (Nat.le_trans h5), h4, Nat.le_trans h5 hw.size⟩
theorem Aw.app {B b : Nat} {w0 w : World} {d : Dm} (h : Aw B w0 b d w) {A : Nat → Prop} (n l : By) (v : Value) (hn : n.length ≤ maxLen) (hv : Bs A w v l) (ht : tot d.seen ≤ lim) (hr : 0 ≤ d.room ∧ d.room ≤ 9223372036854775807)
    (hfit : (foz d.seen n).length + l.length ≤ lim) (hl : d.seen.length + 1 < maxLen) (hq : (d.queue.length + 1) * 16 ≤ 140737488355328) :
    Calls Try.prog 13 #[.pointer (some ⟨b, 0, none⟩), .string ⟨n.toArray⟩, v] w fun E w' => E = .returned (.int .i64 (rawE d (wrE d n (foz d.seen n).length l.length))) ∧ Aw B w0 b (rawD d (.write n (foz d.seen n).length l) (wrE d n (foz d.seen n).length l.length)) w' := by
  obtain ⟨M, D, h1, h2, h3, h4, h5⟩ := h
  refine (append_any n l v h1 hn hv ht hr (fun _ => hfit) hl hq).mono ?_
  rintro E w' ⟨rfl, hT⟩
  exact ⟨rfl, Aw.turn h2 h3 h4 h5 hT⟩
theorem Aw.write {B b : Nat} {w0 w : World} {d : Dm} (h : Aw B w0 b d w) {A : Nat → Prop} (n l : By) (i : Int) (v : Value) (hn : n.length ≤ maxLen) (hv : Bs A w v l) (ht : tot d.seen ≤ lim) (hr : 0 ≤ d.room ∧ d.room ≤ 9223372036854775807)
    (hfit : i.toNat + l.length ≤ lim) (hl : d.seen.length + 1 < maxLen) (hq : (d.queue.length + 1) * 16 ≤ 140737488355328) :
    Calls Try.prog 17 #[.pointer (some ⟨b, 0, none⟩), .string ⟨n.toArray⟩, .int .i64 i, v] w fun E w' => E = .returned (.int .i64 (rawE d (wrE d n i l.length))) ∧ Aw B w0 b (rawD d (.write n i.toNat l) (wrE d n i l.length)) w' := by
  obtain ⟨M, D, h1, h2, h3, h4, h5⟩ := h
  refine (write_any n l i v h1 hn hv ht hr (fun _ => hfit) hl hq).mono ?_
  rintro E w' ⟨rfl, hT⟩
  exact ⟨rfl, Aw.turn h2 h3 h4 h5 hT⟩
theorem Aw.flush {B b : Nat} {w0 w : World} {d : Dm} (h : Aw B w0 b d w) : Calls Try.prog 22 #[.pointer (some ⟨b, 0, none⟩)] w fun E w' => E = .returned (.int .i64 (rawE d 0)) ∧ Aw B w0 b (flD d) w' := by
  obtain ⟨M, D, h1, h2, h3, h4, h5⟩ := h
  refine (flush_any h1).mono ?_
  rintro E w' ⟨rfl, hT⟩
  exact ⟨rfl, Aw.turn h2 h3 h4 h5 hT⟩
theorem Aw.crash {B b : Nat} {w0 w : World} {d : Dm} (keep : Int) (h : Aw B w0 b d w) (hQ : Qok d.safe d.queue) (hl : d.safe.length + d.queue.length < maxLen) (hu : (units d.queue : Int) + 1 ≤ 4611686018427387904) (hk1 : -9223372036854775808 ≤ keep) (hk2 : keep ≤ 9223372036854775807) (hql : d.queue.length * 16 ≤ 140737488355328) :
    Calls Try.prog 23 #[.pointer (some ⟨b, 0, none⟩), .int .i64 keep] w fun E w' => E = .returned (.tuple #[]) ∧ Aw B w0 b (crD d keep) w' := by
  obtain ⟨M, D, h1, h2, h3, h4, h5⟩ := h
  refine (crash_any keep h1 hQ hl hu hk1 hk2 hql).mono ?_
  rintro E w' ⟨rfl, hT⟩
  exact ⟨rfl, Aw.turn h2 h3 h4 h5 hT⟩
theorem Aw.read {B b : Nat} {w0 w : World} {d : Dm} (h : Aw B w0 b d w) (n : By) (hn : n.length ≤ maxLen) : Calls Try.prog 19 #[.pointer (some ⟨b, 0, none⟩), .string ⟨n.toArray⟩] w (ReadPost w d n) := by
  obtain ⟨M, D, h1, h2, h3, h4, h5⟩ := h
  exact read_any n h1 hn
theorem Aw.queue {B b : Nat} {w0 w : World} {d : Dm} (h : Aw B w0 b d w) : Calls Try.prog 34 #[.pointer (some ⟨b, 0, none⟩)] w fun E w' => E = .returned (.int .i64 (d.queue.length : Int)) ∧ w = w' := by
  obtain ⟨M, D, h1, h2, h3, h4, h5⟩ := h
  exact queue_any h1
theorem bs_lit {w : World} {l : By} (hl : l.length ≤ lim) : Bs (fun _ => True) (w.alloc (.cells (bv l).toArray 5)) (.slice (some ⟨w.heap.size, 0, none⟩) l.length l.length) l := bs_own (by rw [heap_alloc_new]) rfl hl trivial
def aw0 : Dm := ⟨[], [], [], 20, false, 0, false⟩
def aw1 : Dm := rawD aw0 (.write [97] 0 [1, 2]) 0
def aw2 : Dm := flD aw1
def aw3 : Dm := rawD aw2 (.write [97] 1 [7, 8, 9]) 0
def aw4 : Dm := crD aw3 3
theorem aw_facts : wrE aw0 [97] (foz aw0.seen [97]).length 2 = 0 ∧ rawE aw0 0 = 0 ∧ rawE aw1 0 = 0 ∧ wrE aw2 [97] 1 3 = 0 ∧ rawE aw2 0 = 0 ∧ aw3.queue.length = 1 ∧ rdE aw4 [97] = 0 ∧ rdB aw4 [97] = [1, 7, 8] ∧ aw4.queue.length = 0 := by
  refine ⟨?_, ?_, ?_, ?_, ?_, ?_, ?_, ?_, ?_⟩ <;> decide
theorem aw_app {B b : Nat} {w0 w : World} {A : Nat → Prop} {v : Value} (h : Aw B w0 b aw0 w) (hv : Bs A w v [1, 2]) : Calls Try.prog 13 #[.pointer (some ⟨b, 0, none⟩), .string ⟨#[97]⟩, v] w fun E w' => E = .returned (.int .i64 0) ∧ Aw B w0 b aw1 w' := by
  have f1 : wrE aw0 [97] ((foz aw0.seen [97]).length : Int) ([1, 2] : By).length = 0 := by decide
  have f2 : rawE aw0 0 = 0 := by decide
  have := h.app [97] [1, 2] v (by decide) hv (by decide) ⟨by decide, by decide⟩ (by decide) (by decide) (by decide)
  rw [f1, f2] at this
  exact this
theorem aw_flush {B b : Nat} {w0 w : World} (h : Aw B w0 b aw1 w) : Calls Try.prog 22 #[.pointer (some ⟨b, 0, none⟩)] w fun E w' => E = .returned (.int .i64 0) ∧ Aw B w0 b aw2 w' := by
  have f2 : rawE aw1 0 = 0 := by decide
  have := h.flush
  rw [f2] at this
  exact this
theorem aw_write {B b : Nat} {w0 w : World} {A : Nat → Prop} {v : Value} (h : Aw B w0 b aw2 w) (hv : Bs A w v [7, 8, 9]) : Calls Try.prog 17 #[.pointer (some ⟨b, 0, none⟩), .string ⟨#[97]⟩, .int .i64 1, v] w fun E w' => E = .returned (.int .i64 0) ∧ Aw B w0 b aw3 w' := by
  have f1 : wrE aw2 [97] 1 ([7, 8, 9] : By).length = 0 := by decide
  have f2 : rawE aw2 0 = 0 := by decide
  have := h.write [97] [7, 8, 9] 1 v (by decide) hv (by decide) ⟨by decide, by decide⟩ (by decide) (by decide) (by decide)
  rw [f1, f2] at this
  exact this
theorem aw_queue3 {B b : Nat} {w0 w : World} (h : Aw B w0 b aw3 w) : Calls Try.prog 34 #[.pointer (some ⟨b, 0, none⟩)] w fun E w' => E = .returned (.int .i64 1) ∧ w = w' := by
  have f : (aw3.queue.length : Int) = 1 := by decide
  have := h.queue
  rw [f] at this
  exact this
theorem aw_queue4 {B b : Nat} {w0 w : World} (h : Aw B w0 b aw4 w) : Calls Try.prog 34 #[.pointer (some ⟨b, 0, none⟩)] w fun E w' => E = .returned (.int .i64 0) ∧ w = w' := by
  have f : (aw4.queue.length : Int) = 0 := by decide
  have := h.queue
  rw [f] at this
  exact this
theorem aw_crash {B b : Nat} {w0 w : World} (h : Aw B w0 b aw3 w) : Calls Try.prog 23 #[.pointer (some ⟨b, 0, none⟩), .int .i64 3] w fun E w' => E = .returned (.tuple #[]) ∧ Aw B w0 b aw4 w' :=
  h.crash 3 (by refine ⟨⟨?_, ?_, ?_⟩, trivial⟩ <;> decide) (by decide) (by decide) (by decide) (by decide) (by decide)
theorem aw_read {B b : Nat} {w0 w : World} (h : Aw B w0 b aw4 w) : Calls Try.prog 19 #[.pointer (some ⟨b, 0, none⟩), .string ⟨#[97]⟩] w fun E w' => ∃ v', E = .returned (.tuple #[v', .int .i64 0]) ∧ Below w.heap.size w w' ∧ Ob 5 w.heap.size w' v' [1, 7, 8] := by
  have f1 : rdE aw4 [97] = 0 := by decide
  have f2 : rdB aw4 [97] = [1, 7, 8] := by decide
  have := h.read [97] (by decide)
  unfold ReadPost at this
  rw [f1, f2] at this
  exact this
set_option maxRecDepth 100000 in
set_option maxHeartbeats 2000000 in
/-- groynelaw04.awake -/
theorem awake_any (w : World) : Calls Try.prog 10 #[] w fun E w' => E = .returned (.bool true) ∧ Below w.heap.size w w' := by
  go_enter Try.func10, Try.ntmps10
  go_wp2_with fail
  refine (new_any w 20).mono ?_
  rintro E w1 ⟨rfl, hb1, hd⟩
  rw [show (max (0 : Int) 20) = 20 from by decide] at hd
  have HA : Hid (Aw w.heap.size w w.heap.size aw0 w1) := ⟨_, _, hd, hb1, fun _ h => h.elim, Nat.le_refl _, hb1.size⟩
  clear hd hb1
  go_wp2_with fail
  refine (aw_app (HA.out.up (up_alloc w1 (.cells (bv [1, 2]).toArray 5))) (bs_lit (by decide))).mono ?_
  rintro E w2 ⟨rfl, h2⟩
  have H2 := Hid.mk' h2
  clear h2 HA
  go_wp2_with fail
  refine (aw_flush H2.out).mono ?_
  rintro E w3 ⟨rfl, h3⟩
  have H3 := Hid.mk' h3
  clear h3 H2
  go_wp2_with fail
  refine (aw_write (H3.out.up (up_alloc w3 (.cells (bv [7, 8, 9]).toArray 5))) (bs_lit (by decide))).mono ?_
  rintro E w4 ⟨rfl, h4⟩
  have H4 := Hid.mk' h4
  clear h4 H3
  go_wp2_with fail
  refine (aw_queue3 H4.out).mono ?_
  rintro E w5 ⟨rfl, rfl⟩
  go_wp2_with fail
  refine (aw_crash H4.out).mono ?_
  rintro E w6 ⟨rfl, h6⟩
  have H6 := Hid.mk' h6
  clear h6 H4
  go_wp2_with fail
  refine (aw_read H6.out).mono ?_
  rintro E w7 ⟨v', rfl, hb7, ho7⟩
  have H7 := Hid.mk' (H6.out.up hb7)
  have HO := Hid.mk' (ho7.bs (by decide))
  clear hb7 ho7 H6
  go_wp2_with fail
  refine (requal_any v' _ [1, 7, 8] [1, 7, 8] _ (HO.out.up (up_alloc w7 (.cells (bv [1, 7, 8]).toArray 5))) (bs_lit (by decide))).mono ?_
  rintro E w8 ⟨rfl, h8⟩
  rw [show (([1, 7, 8] : By) == [1, 7, 8]) = true from by decide]
  have H8 := Hid.mk' ((H7.out.up (up_alloc w7 (.cells (bv [1, 7, 8]).toArray 5))).up (h8.below _))
  clear h8 H7 HO
  go_wp2_with fail
  refine (aw_queue4 H8.out).mono ?_
  rintro E w9 ⟨rfl, rfl⟩
  go_wp2_with fail
  go_ret
  obtain ⟨M, D, _, hb, _⟩ := H8.out
  exact ⟨rfl, hb⟩
end Go.Proofs.Ytpgpncngamagdaa
