/- The drive of DriveKeeps, in plain words. -/
import Derived.Test.YtpgpncngamagdaaDA
set_option linter.unusedVariables false
set_option linter.unusedSimpArgs false
namespace Go.Proofs.Ytpgpncngamagdaa
open Go.RowKit
def kd0 : Dm := ⟨[], [], [], 1048576, false, 0, false⟩
def kd1 (a : By) : Dm := ⟨[], [([102], a)], [.write [102] 0 a], 1048576, false, 0, false⟩
def kd2 (a b : By) : Dm := ⟨[], [([102], a ++ b)], [.write [102] 0 a, .write [102] a.length b], 1048576, false, 0, false⟩
def kd3 (c : By) : Dm := ⟨[([102], c)], [([102], c)], [], 1048576, false, 0, false⟩
theorem kd_foz0 : foz kd0.seen [102] = [] := rfl
theorem kd_foz1 (a : By) : foz (kd1 a).seen [102] = a := by simp [kd1, foz, fget]
theorem kd_foz2 (a b : By) : foz (kd2 a b).seen [102] = a ++ b := by simp [kd2, foz, fget]
theorem kd_e1 (a : By) (h : a.length ≤ 262144) : wrE kd0 [102] ((foz kd0.seen [102]).length : Int) a.length = 0 := by
  rw [kd_foz0]
  unfold wrE
  rw [kd_foz0, if_neg (by simp), if_neg (by simp [kd0, tot]; omega)]
theorem kd_r1 (a : By) : rawE kd0 0 = 0 ∧ rawD kd0 (.write [102] (foz kd0.seen [102]).length a) 0 = kd1 a := by
  refine ⟨rfl, ?_⟩
  rw [kd_foz0]
  have e : wrt [] 0 a = a := by have := wrt_end [] a; simpa using this
  simp [rawD, mayD, kd0, kd1, ddo, fput, foz, fget, Dd.units, e]
theorem kd_e2 (a b : By) (h : a.length + b.length ≤ 262144) : wrE (kd1 a) [102] ((foz (kd1 a).seen [102]).length : Int) b.length = 0 := by
  rw [kd_foz1]
  unfold wrE
  rw [kd_foz1, if_neg (by omega), if_neg (by simp [kd1, tot]; omega)]
theorem kd_r2 (a b : By) : rawE (kd1 a) 0 = 0 ∧ rawD (kd1 a) (.write [102] (foz (kd1 a).seen [102]).length b) 0 = kd2 a b := by
  refine ⟨rfl, ?_⟩
  rw [kd_foz1]
  simp [rawD, mayD, kd1, kd2, ddo, fput, foz, fget, Dd.units, wrt_end]
theorem kd_f (a b : By) : flD (kd2 a b) = kd3 (a ++ b) := by simp [flD, mayD, kd2, kd3]
theorem kd_c (c : By) : crD (kd3 c) 0 = kd3 c := by simp [crD, crK, kd3, units, after]
theorem kd_rd2 (a b : By) : rdE (kd2 a b) [102] = 0 ∧ rdB (kd2 a b) [102] = a ++ b := by
  constructor
  · simp [rdE, kd2, thE, fget]
  · simp [rdB, kd2, foz, fget]
theorem kd_rd3 (c : By) : rdE (kd3 c) [102] = 0 ∧ rdB (kd3 c) [102] = c := by
  constructor
  · simp [rdE, kd3, thE, fget]
  · simp [rdB, kd3, foz, fget]
/-- a drive all of whose blocks lie from B on -/
def Ax (B b : Nat) (d : Dm) (w : World) : Prop := ∃ M D : Nat → Prop, DrIs M D w b d ∧ (∀ k, M k → B ≤ k) ∧ (∀ k, D k → B ≤ k) ∧ B ≤ b ∧ B ≤ w.heap.size
theorem Ax.keep {B b : Nat} {d : Dm} {w w' : World} {X : Nat → Prop} (h : Ax B b d w) (hw : Wb X w w') (hX : ∀ k, X k → k < B) : Ax B b d w' := by
  obtain ⟨M, D, h1, h2, h3, h4, h5⟩ := h
  refine ⟨M, D, h1.keep hw fun k hk => ⟨fun hm => ?_, fun hd => ?_, fun e => ?_⟩, h2, h3, h4, Nat.le_trans h5 hw.size⟩
  · have a1 := hX k hk; have a2 := h2 k hm; omega
  · have a1 := hX k hk; have a2 := h3 k hd; omega
  · have a1 := hX k hk; omega
theorem Ax.up {B b : Nat} {d : Dm} {w w' : World} (h : Ax B b d w) (hb : Below w.heap.size w w') : Ax B b d w' := h.keep (Wb.of_below (fun _ => False) hb) fun _ h => h.elim
/-- behind what changes blocks below B, and blocks made later, alone -/
theorem Ax.keep2 {B b S : Nat} {d : Dm} {w w' w2 : World} {X : Nat → Prop} (h : Ax B b d w) (hS : w.heap.size ≤ S) (hb : Below w.heap.size w w') (hw : Wb X w' w2) (hX : ∀ k, X k → k < B ∨ S ≤ k) : Ax B b d w2 := by
  obtain ⟨M, D, h1, h2, h3, h4, h5⟩ := h
  have hbl : b < w.heap.size := by obtain ⟨_, _, _, hx, _⟩ := h1.ex; exact (Array.getElem?_eq_some_iff.1 hx).1
  refine ⟨M, D, (h1.below hb).keep hw fun k hk => ⟨fun hm => ?_, fun hd => ?_, fun e => ?_⟩, h2, h3, h4, Nat.le_trans (Nat.le_trans h5 hb.size) hw.size⟩
  · have a1 := hX k hk; have a2 := h2 k hm; have a3 := (h1.hM k hm).1; omega
  · have a1 := hX k hk; have a2 := h3 k hd; have a3 := (h1.hD k hd).1; omega
  · have a1 := hX k hk; omega
theorem Ax.turn {B b : Nat} {w w' : World} {d' : Dm} {M D : Nat → Prop} (h2 : ∀ k, M k → B ≤ k) (h3 : ∀ k, D k → B ≤ k) (h4 : B ≤ b) (h5 : B ≤ w.heap.size) (ht : Turned M D w b d' w') : Below B w w' ∧ Ax B b d' w' := by
  obtain ⟨hw, M', D', k1, k2, k3⟩ := ht
  exact ⟨hw.below h5 fun k hk => hk.elim (fun e => by rw [e]; exact h4) (h2 k), M', D', k3, fun k hk => (k1 k hk).elim (h2 k) (Nat.le_trans h5), fun k hk => (k2 k hk).elim (h3 k) (Nat.le_trans h5), h4, Nat.le_trans h5 hw.size⟩
theorem kd_app1 {B b : Nat} {w : World} {A : Nat → Prop} {a : By} {v : Value} (h : Ax B b kd0 w) (hv : Bs A w v a) (hl : a.length ≤ 262144) : Calls Try.prog 13 #[.pointer (some ⟨b, 0, none⟩), .string ⟨#[102]⟩, v] w fun E w' => E = .returned (.int .i64 0) ∧ Below B w w' ∧ Ax B b (kd1 a) w' := by
  obtain ⟨M, D, h1, h2, h3, h4, h5⟩ := h
  have := append_any [102] a v h1 (by decide) hv (by decide) ⟨by decide, by decide⟩ (fun _ => by rw [kd_foz0]; unfold lim; simp; omega) (by decide) (by decide)
  unfold WritePost at this
  rw [kd_e1 a hl, (kd_r1 a).1, Int.toNat_natCast, (kd_r1 a).2] at this
  refine this.mono ?_
  rintro E w' ⟨rfl, hT⟩
  exact ⟨rfl, Ax.turn h2 h3 h4 h5 hT⟩
theorem kd_app2 {B b : Nat} {w : World} {A : Nat → Prop} {a c : By} {v : Value} (h : Ax B b (kd1 a) w) (hv : Bs A w v c) (hl : a.length + c.length ≤ 262144) : Calls Try.prog 13 #[.pointer (some ⟨b, 0, none⟩), .string ⟨#[102]⟩, v] w fun E w' => E = .returned (.int .i64 0) ∧ Below B w w' ∧ Ax B b (kd2 a c) w' := by
  obtain ⟨M, D, h1, h2, h3, h4, h5⟩ := h
  have := append_any [102] c v h1 (by decide) hv (by unfold lim; simp [kd1, tot]; omega) ⟨by show (0 : Int) ≤ 1048576; decide, by show (1048576 : Int) ≤ _; decide⟩ (fun _ => by rw [kd_foz1]; unfold lim; omega) (by show 1 + 1 < maxLen; decide) (by show (1 + 1) * 16 ≤ _; decide)
  unfold WritePost at this
  rw [kd_e2 a c hl, (kd_r2 a c).1, Int.toNat_natCast, (kd_r2 a c).2] at this
  refine this.mono ?_
  rintro E w' ⟨rfl, hT⟩
  exact ⟨rfl, Ax.turn h2 h3 h4 h5 hT⟩
theorem kd_flush {B b : Nat} {w : World} {a c : By} (h : Ax B b (kd2 a c) w) : Calls Try.prog 22 #[.pointer (some ⟨b, 0, none⟩)] w fun E w' => (∃ e, E = .returned (.int .i64 e)) ∧ Below B w w' ∧ Ax B b (kd3 (a ++ c)) w' := by
  obtain ⟨M, D, h1, h2, h3, h4, h5⟩ := h
  have := flush_any h1
  rw [kd_f] at this
  refine this.mono ?_
  rintro E w' ⟨rfl, hT⟩
  exact ⟨⟨_, rfl⟩, Ax.turn h2 h3 h4 h5 hT⟩
theorem kd_crash {B b : Nat} {w : World} {c : By} (h : Ax B b (kd3 c) w) : Calls Try.prog 23 #[.pointer (some ⟨b, 0, none⟩), .int .i64 0] w fun E w' => E = .returned (.tuple #[]) ∧ Below B w w' ∧ Ax B b (kd3 c) w' := by
  obtain ⟨M, D, h1, h2, h3, h4, h5⟩ := h
  have := crash_any 0 h1 trivial (by show 1 + 0 < maxLen; decide) (by show ((0 : Nat) : Int) + 1 ≤ _; decide) (by decide) (by decide) (by show 0 * 16 ≤ _; decide)
  rw [kd_c] at this
  refine this.mono ?_
  rintro E w' ⟨rfl, hT⟩
  exact ⟨rfl, Ax.turn h2 h3 h4 h5 hT⟩
theorem kd_read2 {B b : Nat} {w : World} {a c : By} (h : Ax B b (kd2 a c) w) : Calls Try.prog 19 #[.pointer (some ⟨b, 0, none⟩), .string ⟨#[102]⟩] w fun E w' => ∃ v', E = .returned (.tuple #[v', .int .i64 0]) ∧ Below w.heap.size w w' ∧ Ob 5 w.heap.size w' v' (a ++ c) := by
  obtain ⟨M, D, h1, h2, h3, h4, h5⟩ := h
  have := read_any [102] h1 (by decide)
  unfold ReadPost at this
  rw [(kd_rd2 a c).1, (kd_rd2 a c).2] at this
  exact this
theorem kd_read3 {B b : Nat} {w : World} {c : By} (h : Ax B b (kd3 c) w) : Calls Try.prog 19 #[.pointer (some ⟨b, 0, none⟩), .string ⟨#[102]⟩] w fun E w' => ∃ v', E = .returned (.tuple #[v', .int .i64 0]) ∧ Below w.heap.size w w' ∧ Ob 5 w.heap.size w' v' c := by
  obtain ⟨M, D, h1, h2, h3, h4, h5⟩ := h
  have := read_any [102] h1 (by decide)
  unfold ReadPost at this
  rw [(kd_rd3 c).1, (kd_rd3 c).2] at this
  exact this
theorem kd_twin {B b : Nat} {w : World} {a c : By} (h : Ax B b (kd2 a c) w) : Calls Try.prog 16 #[.pointer (some ⟨b, 0, none⟩)] w fun E w' => E = .returned (.pointer (some ⟨w.heap.size, 0, none⟩)) ∧ Aw w.heap.size w w.heap.size (kd2 a c) w' := by
  obtain ⟨M, D, h1, h2, h3, h4, h5⟩ := h
  refine (twin_any h1 (by show 2 * 16 ≤ _; decide)).mono ?_
  rintro E w' ⟨rfl, hb, M2, D2, k1, k2, k3⟩
  exact ⟨rfl, M2, D2, k3, hb, k1, Nat.le_refl _, hb.size⟩
theorem kd_twrite {S t : Nat} {w0 w : World} {A : Nat → Prop} {a c : By} {v : Value} (h : Aw S w0 t (kd2 a c) w) (hv : Bs A w v [1, 2, 3]) (hl : a.length + c.length ≤ 262144) : Calls Try.prog 17 #[.pointer (some ⟨t, 0, none⟩), .string ⟨#[102]⟩, .int .i64 0, v] w fun E w' => (∃ e, E = .returned (.int .i64 e)) ∧ Below S w0 w' := by
  refine (h.write [102] [1, 2, 3] 0 v (by decide) hv (by unfold lim; simp [kd2, tot]; omega) ⟨by show (0 : Int) ≤ 1048576; decide, by show (1048576 : Int) ≤ _; decide⟩ (by decide) (by show 1 + 1 < maxLen; decide) (by show (2 + 1) * 16 ≤ _; decide)).mono ?_
  rintro E w' ⟨rfl, M, D, _, hb, _⟩
  exact ⟨⟨_, rfl⟩, hb⟩
theorem kd_new (w : World) : Calls Try.prog 12 #[.int .i64 1048576] w fun E w' => E = .returned (.pointer (some ⟨w.heap.size, 0, none⟩)) ∧ Below w.heap.size w w' ∧ Ax w.heap.size w.heap.size kd0 w' := by
  refine (new_any w 1048576).mono ?_
  rintro E w' ⟨rfl, hb, hd⟩
  rw [show (max (0 : Int) 1048576) = 1048576 from by decide] at hd
  exact ⟨rfl, hb, _, _, hd, fun _ h => h.elim, fun _ h => h.elim, Nat.le_refl _, hb.size⟩
end Go.Proofs.Ytpgpncngamagdaa
