/- groyneref04: New, Arm, Wipe, Read, Used. -/
import Derived.Test.YtpgpncngamagdaaRL
set_option linter.unusedVariables false
set_option linter.unusedSimpArgs false
namespace Go.Proofs.Ytpgpncngamagdaa
open Go.RowKit
attribute [local go_sem ↓] Go.wp_at_zero Go.wp_at_succ
/-- a call that only makes memory and answers a drive -/
def RfPost (A : Nat → Prop) (w : World) (r : Rd) (e : Ending) (w' : World) : Prop := ∃ v, e = .returned v ∧ Rf (fun k => A k ∨ w.heap.size ≤ k) w' v r ∧ Below w.heap.size w w'
set_option maxRecDepth 100000 in
set_option maxHeartbeats 2000000 in
/-- groyneref04.New -/
theorem rnew_any {w : World} (room : Int) : Calls Try.prog 25 #[.int .i64 room] w (RfPost (fun _ => False) w ⟨[], [], max 0 room, -1, false⟩) := by
  by_cases h : room < 0
  · have h0 : max 0 room = 0 := by omega
    rw [h0]
    clear h0
    go_enter Try.func25, Try.ntmps25
    go_wp2_with fail
    refine bodyPost_ret (v := .agg #[.slice none 0 0, .slice none 0 0, .int .i64 0, .int .i64 (-1), .bool false]) (by simp [results, Try.results25, go_sem]) rfl ⟨_, rfl, ⟨_, _, rfl, Ts.nil, Os.nil⟩, up_alloc _ _⟩
  · have h0 : max 0 room = room := by omega
    rw [h0]
    clear h0
    go_enter Try.func25, Try.ntmps25
    go_wp2_with fail
    refine bodyPost_ret (v := .agg #[.slice none 0 0, .slice none 0 0, .int .i64 room, .int .i64 (-1), .bool false]) (by simp [results, Try.results25, go_sem]) rfl ⟨_, rfl, ⟨_, _, rfl, Ts.nil, Os.nil⟩, up_alloc _ _⟩
set_option maxRecDepth 100000 in
set_option maxHeartbeats 2000000 in
/-- groyneref04.Wipe -/
theorem rwipe_any {w : World} {vs vq : Value} {room armed : Int} {dead : Bool} : Calls Try.prog 58 #[.agg #[vs, vq, .int .i64 room, .int .i64 armed, .bool dead]] w (RfPost (fun _ => False) w ⟨[], [], room, -1, false⟩) := by
  go_enter Try.func58, Try.ntmps58
  go_wp2_with fail
  refine bodyPost_ret (v := .agg #[.slice none 0 0, .slice none 0 0, .int .i64 room, .int .i64 (-1), .bool false]) (by simp [results, Try.results58, go_sem]) rfl ⟨_, rfl, ⟨_, _, rfl, Ts.nil, Os.nil⟩, bt (up_alloc _ _) (up_alloc _ _)⟩
set_option maxRecDepth 100000 in
set_option maxHeartbeats 2000000 in
/-- groyneref04.Arm -/
theorem rarm_any {A : Nat → Prop} {w : World} {v : Value} {r : Rd} (n : Int) (h : Rf A w v r) : Calls Try.prog 56 #[v, .int .i64 n] w (RfPost A w (rfA r n)) := by
  obtain ⟨vs, vq, rfl, h1, h2⟩ := h
  have H1 := Hid.mk' h1
  have H2 := Hid.mk' h2
  obtain ⟨a, c, rfl, _⟩ := h1.at
  obtain ⟨qa, qc, rfl, _⟩ := h2.at
  have HR : Hid (rfA r n = if r.dead then r else { r with armed := if n < 0 then -1 else n }) := rfl
  obtain ⟨sf, qu, room, armed, dead⟩ := r
  simp only at *
  cases dead
  · by_cases hn : n < 0
    · rw [HR.out, if_neg (by simp), if_pos hn]
      go_enter Try.func56, Try.ntmps56
      go_wp2_with fail
      refine bodyPost_ret (v := .agg #[.slice a sf.length c, .slice qa qu.length qc, .int .i64 room, .int .i64 (-1), .bool false]) (by simp [results, Try.results56, go_sem]) rfl ⟨_, rfl, ⟨_, _, rfl, ?_, ?_⟩, bt (up_alloc _ _) (up_alloc _ _)⟩
      · exact (H1.out.up (bt (up_alloc _ _) (up_alloc _ _))).monoS fun k hk => .inl hk
      · exact (H2.out.up (bt (up_alloc _ _) (up_alloc _ _))).monoS fun k hk => .inl hk
    · rw [HR.out, if_neg (by simp), if_neg hn]
      go_enter Try.func56, Try.ntmps56
      go_wp2_with fail
      refine bodyPost_ret (v := .agg #[.slice a sf.length c, .slice qa qu.length qc, .int .i64 room, .int .i64 n, .bool false]) (by simp [results, Try.results56, go_sem]) rfl ⟨_, rfl, ⟨_, _, rfl, ?_, ?_⟩, bt (up_alloc _ _) (up_alloc _ _)⟩
      · exact (H1.out.up (bt (up_alloc _ _) (up_alloc _ _))).monoS fun k hk => .inl hk
      · exact (H2.out.up (bt (up_alloc _ _) (up_alloc _ _))).monoS fun k hk => .inl hk
  · rw [HR.out, if_pos rfl]
    go_enter Try.func56, Try.ntmps56
    go_wp2_with fail
    refine bodyPost_ret (v := .agg #[.slice a sf.length c, .slice qa qu.length qc, .int .i64 room, .int .i64 armed, .bool true]) (by simp [results, Try.results56, go_sem]) rfl ⟨_, rfl, ⟨_, _, rfl, ?_, ?_⟩, bt (up_alloc _ _) (up_alloc _ _)⟩
    · exact (H1.out.up (bt (up_alloc _ _) (up_alloc _ _))).monoS fun k hk => .inl hk
    · exact (H2.out.up (bt (up_alloc _ _) (up_alloc _ _))).monoS fun k hk => .inl hk
/-- what the reference's drive may be -/
def Rok (T : Nat) (r : Rd) : Prop := Qg T r.safe r.queue ∧ r.safe.length + r.queue.length ≤ 900000
def RrPost (A : Nat → Prop) (w : World) (r : Rd) (n : By) (e : Ending) (w' : World) : Prop := ∃ u, e = .returned (.tuple #[u, .int .i64 (if r.dead then 9 else thF (cur r) n)]) ∧ Bs (fun k => A k ∨ w.heap.size ≤ k) w' u (if r.dead then [] else foz (cur r) n) ∧ Below w.heap.size w w'
set_option maxRecDepth 100000 in
set_option maxHeartbeats 2000000 in
/-- groyneref04.Read -/
theorem rread_any {A : Nat → Prop} {w : World} {v : Value} {r : Rd} {T : Nat} (n : By) (h : Rf A w v r) (hk : Rok T r) : Calls Try.prog 59 #[v, .string ⟨n.toArray⟩] w (RrPost A w r n) := by
  obtain ⟨vs, vq, rfl, h1, h2⟩ := h
  have H1 := Hid.mk' h1
  have H2 := Hid.mk' h2
  obtain ⟨a, c, rfl, _⟩ := h1.at
  obtain ⟨qa, qc, rfl, _⟩ := h2.at
  have HK := Hid.mk' hk
  have HC : Hid (cur r = all r.safe r.queue) := rfl
  unfold RrPost
  clear h1 h2 hk
  obtain ⟨sf, qu, room, armed, dead⟩ := r
  generalize cur _ = C at *
  unfold Rok at HK
  simp only at *
  cases dead
  · have hup := up_alloc w (.cells #[.slice a sf.length c, .slice qa qu.length qc, .int .i64 room, .int .i64 armed, .bool false] 51)
    have HUP := Hid.mk' hup
    have HA := Hid.mk' (raft_all (y2 := .int .i64 room) (y3 := .int .i64 armed) (y4 := .bool false) (H1.out.up hup) (H2.out.up hup) HK.out.1 HK.out.2)
    clear hup
    go_enter Try.func59, Try.ntmps59
    go_wp2_with fail
    refine HA.out.mono ?_
    rintro e w1 ⟨y, rfl, t1, b1⟩
    rw [← HC.out] at t1
    have T1 := Hid.mk' t1
    have B1 := Hid.mk' (bt HUP.out b1)
    have GG := Hid.mk' (get_any n t1)
    obtain ⟨a3, c3, rfl, _⟩ := t1.at
    clear t1 b1 HA
    go_wp2_with fail
    refine GG.out.mono ?_
    rintro e w2 ⟨⟨u2, rfl, hu2⟩, rfl⟩
    obtain ⟨a4, c4, rfl, _⟩ := hu2.at
    have HU := Hid.mk' hu2
    have HT : Hid (thF C n = if (fget C n).isSome then 0 else 6) := rfl
    have HZ : Hid ((fget C n).isSome = false → foz C n = []) := fun he => by unfold foz; cases hx : fget C n with
      | none => rfl
      | some y => rw [hx] at he; cases he
    clear hu2 GG
    generalize (fget C n).isSome = bb at *
    cases bb
    · have hz := Hid.mk' (HZ.out rfl)
      clear HZ
      go_wp2_with fail
      go_ret2
      refine ⟨.slice none 0 0, by simp only [Bool.false_eq_true, if_false]; rw [HT.out]; rfl, ?_, B1.out⟩
      rw [hz.out]; exact bs_nil
    · clear HZ
      go_wp2_with fail
      go_ret2
      refine ⟨.slice a4 (foz C n).length c4, by simp only [Bool.false_eq_true, if_false]; rw [HT.out]; rfl, ?_, B1.out⟩
      exact HU.out.monoS fun k hk => hk.imp id fun h => Nat.le_trans HUP.out.size h
  · go_enter Try.func59, Try.ntmps59
    go_wp2_with fail
    go_ret2
    exact ⟨.slice none 0 0, rfl, bs_nil, up_alloc _ _⟩
theorem tot_cons (t : By × By) (F : Fl) : tot (t :: F) = t.2.length + tot F := by simp [tot]
theorem tot_take (F : Fl) (k : Nat) (h : k < F.length) : tot (F.take (k + 1)) = tot (F.take k) + F[k].2.length := by
  rw [List.take_succ_eq_append_getElem h]; simp only [tot, List.map_append, List.sum_append, List.map_cons, List.map_nil, List.sum_cons, List.sum_nil, Nat.add_zero]
theorem tot_take_le (F : Fl) (k : Nat) : tot (F.take k) ≤ tot F := by
  have h1 : tot (F.take k ++ F.drop k) = tot (F.take k) + tot (F.drop k) := by simp only [tot, List.map_append, List.sum_append]
  rw [List.take_append_drop] at h1
  omega
set_option maxRecDepth 100000 in
set_option maxHeartbeats 2000000 in
/-- groyneref04.Used -/
theorem rused_any {A : Nat → Prop} {w : World} {v : Value} {r : Rd} {T : Nat} (h : Rf A w v r) (hk : Rok T r) (hT : T ≤ lim) : Calls Try.prog 60 #[v] w fun e w' => e = .returned (.int .i64 (tot (cur r) : Int)) ∧ Below w.heap.size w w' := by
  obtain ⟨vs, vq, rfl, h1, h2⟩ := h
  have H1 := Hid.mk' h1
  have H2 := Hid.mk' h2
  obtain ⟨a, c, rfl, _⟩ := h1.at
  obtain ⟨qa, qc, rfl, _⟩ := h2.at
  have HC : Hid (cur r = all r.safe r.queue) := rfl
  have HX : Hid (tot (cur r) ≤ 140737488351232) := Nat.le_trans (Qg.last hk.1).2.1 hT
  have HK := Hid.mk' hk
  clear h1 h2 hk hT
  obtain ⟨sf, qu, room, armed, dead⟩ := r
  generalize cur _ = C at *
  unfold Rok at HK
  simp only at *
  have hup := up_alloc w (.cells #[.slice a sf.length c, .slice qa qu.length qc, .int .i64 room, .int .i64 armed, .bool dead] 51)
  have HUP := Hid.mk' hup
  have HA := Hid.mk' (raft_all (y2 := .int .i64 room) (y3 := .int .i64 armed) (y4 := .bool dead) (H1.out.up hup) (H2.out.up hup) HK.out.1 HK.out.2)
  clear hup
  go_enter Try.func60, Try.ntmps60
  go_wp2_with fail
  refine HA.out.mono ?_
  rintro e w1 ⟨y, rfl, t1, b1⟩
  rw [← HC.out] at t1
  have B1 := Hid.mk' (bt HUP.out b1)
  obtain ⟨a3, c3, rfl, _, _, hlC, H⟩ := t1.at
  have H := Hid.mk' H
  have hlC' : (C.length : Int) ≤ 1000000 := by omega
  clear t1 b1 HA hlC
  go_wp2_with fail
  go_loop [3, 5] (fun s i => ∃ k : Nat, k ≤ C.length ∧ i = .int .i64 k ∧ s = .int .i64 (tot (C.take k) : Int)) (fun _ i => C.length - (intOf i).toNat)
  case atStart => exact ⟨0, by omega, rfl, by simp [tot]⟩
  case round =>
    obtain ⟨k, hk, rfl, rfl⟩ := hrel
    by_cases hlt : k < C.length
    · have hlt' : (k : Int) < (C.length : Int) := by omega
      obtain ⟨b, o, u, rfl, _, d0, d1, hu⟩ := H.out k hlt
      have HS := Hid.mk' (tot_take C k hlt)
      obtain ⟨ua, uc, rfl, _⟩ := hu.at
      have hle := tot_take_le C (k + 1)
      rw [HS.out] at hle
      have hb1 : (tot (C.take k) : Int) + (C[k].2.length : Int) ≤ 140737488351232 := by have := HX.out; omega
      clear hu hle
      generalize C[k] = t at *
      generalize tot (C.take k) = z at *
      go_wp2_with fail
      go_round
      case rel => exact ⟨k + 1, by omega, by go_num, by rw [HS.out]; go_num⟩
      case measure => simp [intOf]; omega
    · obtain rfl : k = C.length := by omega
      rw [List.take_length]
      go_wp2_with fail
      go_ret
      exact ⟨rfl, B1.out⟩
end Go.Proofs.Ytpgpncngamagdaa
