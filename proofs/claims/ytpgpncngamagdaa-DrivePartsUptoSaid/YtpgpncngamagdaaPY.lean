/- groynelaw04.play: one act of both. -/
import Derived.Test.YtpgpncngamagdaaPW
import Derived.Test.YtpgpncngamagdaaRQa
import Derived.Test.YtpgpncngamagdaaRQw
import Derived.Test.YtpgpncngamagdaaRQt
import Derived.Test.YtpgpncngamagdaaRQd
import Derived.Test.YtpgpncngamagdaaRQf
import Derived.Deep.CutBlock
set_option linter.unusedVariables false
set_option linter.unusedSimpArgs false
namespace Go.Proofs.Ytpgpncngamagdaa
open Go.RowKit
attribute [local go_sem ↓] Go.wp_at_zero Go.wp_at_succ
theorem Pm.start {M D A Aa : Nat → Prop} {w w1 : World} {b : Nat} {g : Value} {l : By} {d : Dm} {r : Rd} {vb va : Array Value} (hd : DrIs M D w b d) (hr : Rf A w (.agg vb) r) (hA : ∀ k, A k → ¬ M k ∧ k ≠ b) (hAa : ∀ k, Aa k → ¬ M k ∧ k ≠ b)
    {W : World} (hW : W = ((w.alloc (.cells vb 51)).alloc (.cells va 55)).alloc (.cells #[.slice none 0 0, .slice none 0 0, .int .i64 0, .int .i64 0, .bool false] 51)) (hb : Below W.heap.size W w1) (hg : Ob 5 W.heap.size w1 g l) : Pm M D A Aa w b g l M D (fun k => (A k ∨ Aa k) ∧ k < w.heap.size) d r vb va w1 := by
  obtain ⟨h1, h2, h3⟩ := heap_thr w (.cells vb 51) (.cells va 55) (.cells #[.slice none 0 0, .slice none 0 0, .int .i64 0, .int .i64 0, .bool false] 51)
  rw [← hW] at h1 h2 h3
  have hs : W.heap.size = w.heap.size + 3 := by rw [hW]; simp
  have hbw : Below w.heap.size w W := by rw [hW]; exact bt (bt (up_alloc _ _) (up_alloc _ _)) (up_alloc _ _)
  have hb1 := bt hbw hb
  have hbl : b < w.heap.size := by obtain ⟨_, _, _, hx, _⟩ := hd.ex; exact (Array.getElem?_eq_some_iff.1 hx).1
  have gl := hg.lt
  refine ⟨Wb.of_below _ hb1, hd.below hb1, (hr.andLt.up hb1).monoS fun k hk => ⟨.inl hk.1, hk.2⟩, ?_, ?_, ?_, by rw [← hs]; exact hg, fun k hk => .inl hk, fun k hk => .inl hk, fun k hk => hk.1.imp id .inl, fun k hk e => ?_, fun k hk e => ?_, fun k hk e => ?_, fun k hk => ?_, fun k hk => .inl hk.2, fun k hk => (hd.hM k hk).1, fun k hk => (hd.hD k hk).1, hbl⟩
  · rw [hb.block _ (by omega)]; exact h1
  · rw [hb.block _ (by omega)]; exact h2
  · rw [hb.block _ (by omega)]; exact h3
  · have := (hd.hM k hk).1; have := (gl k e).1; omega
  · have := (hd.hD k hk).1; have := (gl k e).1; omega
  · have := hk.2; have := (gl k e).1; omega
  · have h4 := hb1.size
    rcases hk.1 with h | h
    · exact ⟨(hA k h).1, (hA k h).2, by omega⟩
    · exact ⟨(hAa k h).1, (hAa k h).2, by omega⟩
set_option maxRecDepth 100000 in
set_option maxHeartbeats 16000000 in
/-- groynelaw04.play -/
theorem play_any {M D A Aa : Nat → Prop} {w : World} {b : Nat} {v u : Value} {d : Dm} {rd r : Rd} {T N T2 N2 : Nat} (a : Ac) (h : DrIs M D w b d) (hr : Rf A w v r) (hu : Bs Aa w u a.da) (hA : ∀ k, A k → ¬ M k ∧ k ≠ b) (hAa : ∀ k, Aa k → ¬ M k ∧ k ≠ b)
    (he : Eqv d rd) (hg : Gd T N rd) (hg2 : Gd T2 N2 r) (hN : N ≤ 30000 ∧ N2 ≤ 30000) (hT : T ≤ lim ∧ T2 ≤ lim) (hnm : a.nm.length ≤ maxLen) (htn : a.tn.length ≤ maxLen) (hn : -9223372036854775808 ≤ a.n ∧ a.n ≤ 9223372036854775807) (hfit : rd.room ≤ lim ∨ T + a.da.length ≤ lim) :
    Calls Try.prog 27 #[.pointer (some ⟨b, 0, none⟩), v, .agg #[.int .i64 a.kind, .string ⟨a.nm.toArray⟩, .string ⟨a.tn.toArray⟩, .int .i64 a.n, u]] w (PyPost M D A Aa w b (plD d a) (plR r a) (plE d a == plF r a)) := by
  obtain ⟨kd, nm, tn, n, da⟩ := a
  simp only at *
  obtain ⟨vs, vq, rfl, hts, hos⟩ := id hr
  obtain ⟨sa, sc, rfl, hx1⟩ := hts.at
  obtain ⟨qa, qc, rfl, hx2⟩ := hos.at
  obtain ⟨ua, uc, rfl, hx3⟩ := hu.at
  clear hx1 hx2 hx3 hts hos
  have hn1 := hn.1
  have hn2 := hn.2
  have HH := Hid.mk' h
  have HRF := Hid.mk' hr
  have HU := Hid.mk' hu
  have HA := Hid.mk' hA
  have HDA : Hid (∀ k, (A k ∨ Aa k) ∧ k < w.heap.size → ¬ M k ∧ k ≠ b) := fun k hk => hk.1.elim (hA k) (hAa k)
  have HAA := Hid.mk' hAa
  have HUA : Hid (Bs (fun k => (A k ∨ Aa k) ∧ k < w.heap.size) w (.slice ua da.length uc) da) := Bs.monoS (A := fun k => Aa k ∧ k < w.heap.size) ⟨hu.1.andLt, hu.2⟩ fun k hk => ⟨.inr hk.1, hk.2⟩
  have HN1 := Hid.mk' hnm
  have HN2 := Hid.mk' htn
  have HRK := Hid.mk' (hg2.rok (by omega))
  have HT2 := Hid.mk' hT.2
  have hlim : (lim : Int) = 140737488351232 := rfl
  have hr0 : 0 ≤ r.room ∧ r.room ≤ 9223372036854775807 := ⟨by have := hg2.room.1; omega, hg2.room.2⟩
  have har := hg2.armed
  have hrr := he.room
  have hFs : Fg T d.seen := by rw [he.seen]; exact Qg.last hg.qg
  have ht : tot d.seen ≤ lim := Nat.le_trans hFs.2.1 hT.1
  have hroom : 0 ≤ d.room ∧ d.room ≤ 9223372036854775807 := by rw [he.room]; exact ⟨by have := hg.room.1; omega, hg.room.2⟩
  have hsl : d.seen.length ≤ N := by rw [he.seen]; exact Nat.le_trans (all_len hg.qg) hg.len
  have hql : d.queue.length ≤ N := by rw [he.queue]; have := hg.len; omega
  have hl : d.seen.length + 1 < maxLen := by unfold maxLen; omega
  have hq : (d.queue.length + 1) * 16 ≤ 140737488355328 := by omega
  have hz : (foz d.seen nm).length ≤ lim := Nat.le_trans (foz_le _ _) ht
  have hFIT : ∀ i : Int, wrE d nm i da.length = 0 → i.toNat + da.length ≤ lim := fun i hw => by
    unfold wrE at hw
    split at hw
    · cases hw
    · rename_i h1
      split at hw
      · cases hw
      · rename_i h2
        have h3 := foz_le d.seen nm
        have h4 := hFs.2.1
        rcases hfit with h5 | h5
        · rw [← he.room] at h5; omega
        · omega
  have hf1 : wrE d nm ((foz d.seen nm).length : Int) da.length = 0 → (foz d.seen nm).length + da.length ≤ lim := fun hw => by have := hFIT _ hw; rwa [Int.toNat_natCast] at this
  have hf2 : wrE d nm n da.length = 0 → n.toNat + da.length ≤ lim := hFIT n
  have hqo : Qok d.safe d.queue := by rw [he.safe, he.queue]; exact hg.qg.ok
  have hcl : d.safe.length + d.queue.length < maxLen := by rw [he.safe, he.queue]; have := hg.len; unfold maxLen; omega
  have hcu : (units d.queue : Int) + 1 ≤ 4611686018427387904 := by
    rw [he.queue]; have h1 := hg.unit; omega
  have hun : (units r.queue : Int) + 1 ≤ 4611686018427387904 := by have h1 := hg2.unit; omega
  have hcq : d.queue.length * 16 ≤ 140737488355328 := by omega
  have HALL := Hid.mk' (⟨hr0, har, ht, hroom, hl, hq, hz, hf1, hf2, hqo⟩ : _ ∧ _ ∧ _ ∧ _ ∧ _ ∧ _ ∧ _ ∧ _ ∧ _ ∧ _)
  have HAL2 := Hid.mk' (⟨hcl, hcu, hun, hcq⟩ : _ ∧ _ ∧ _ ∧ _)
  clear h hr hu hA hAa hnm htn hn hg hg2 hN hT hlim hr0 har hrr hFs ht hroom hsl hql hl hq hz hFIT hf1 hf2 hqo hcl hcu hun hcq hfit he
  obtain ⟨W, hW⟩ : ∃ W, W = ((w.alloc (.cells #[.slice sa r.safe.length sc, .slice qa r.queue.length qc, .int .i64 r.room, .int .i64 r.armed, .bool r.dead] 51)).alloc (.cells #[.int .i64 kd, .string ⟨nm.toArray⟩, .string ⟨tn.toArray⟩, .int .i64 n, .slice ua da.length uc] 55)).alloc (.cells #[.slice none 0 0, .slice none 0 0, .int .i64 0, .int .i64 0, .bool false] 51) := ⟨_, rfl⟩
  have HW := Hid.mk' hW
  have HBW : Hid (Below w.heap.size w W) := by rw [hW]; exact bt (bt (up_alloc _ _) (up_alloc _ _)) (up_alloc _ _)
  go_enter Try.func27, Try.ntmps27
  go_wp2_with fail
  rw [← hW]
  clear hW
  refine (copy_any _ da W (HU.out.up HBW.out)).mono ?_
  rintro E1 w1 ⟨g, rfl, b1, o1⟩
  obtain ⟨ga, gc, rfl⟩ := own_slice o1
  have HP := Hid.mk' (Pm.start HH.out HRF.out HA.out HAA.out HW.out b1 o1)
  have gvv : Bs (fun k => w.heap.size + 3 ≤ k) w1 (.slice ga da.length gc) da := ⟨Row.of_ownB HP.out.gv, HU.out.2⟩
  have GV := Hid.mk' gvv
  clear b1 o1 gvv HW HBW
  obtain ⟨q0, q1, q2, q3, q4⟩ := box5 HP.out.ax
  go_upto_block 0 with fail
  go_cut [8, 9] (fun e8 e9 wx => e8 = .int .i64 (plE d ⟨kd, nm, tn, n, da⟩) ∧ e9 = .int .i64 (plF r ⟨kd, nm, tn, n, da⟩) ∧ Hid (∃ M1 D1 A1 vb, (∃ x0 x1 x2 x3 x4 : Value, vb = #[x0, x1, x2, x3, x4]) ∧ Pm M D A Aa w b (.slice ga da.length gc) da M1 D1 A1 (plD d ⟨kd, nm, tn, n, da⟩) (plR r ⟨kd, nm, tn, n, da⟩) vb #[.int .i64 kd, .string ⟨nm.toArray⟩, .string ⟨tn.toArray⟩, .int .i64 n, .slice ua da.length uc] wx))
  case first =>
    clear q0 q1 q2 q3 q4
    obtain ⟨hr0, har, ht, hr, hl, hq, hz, hf1, hf2, hqo⟩ := HALL.out
    obtain ⟨hcl, hcu, hun, hcq⟩ := HAL2.out
    have gb := GV.out
    by_cases h1 : kd = 1
    · subst h1
      have PP := HP.out
      have p := PP
      obtain ⟨q0, q1, q2, q3, q4⟩ := box5 p.ax
      clear p
      go_wp2_with fail
      have p := HP.out
      refine (append_any nm da _ p.dr HN1.out gb ht hr hf1 hl hq).mono ?_
      rintro E2 w2 ⟨rfl, hT⟩
      obtain ⟨M2, D2, p2⟩ := p.drive hT
      have P2 := Hid.mk' p2
      have hud : Bs (fun k => (A k ∨ Aa k) ∧ k < w.heap.size) w2 (.slice ua da.length uc) da := HUA.out.wb p2.wb fun k hk hk2 => by
        have h4 := HDA.out k hk2
        rcases hk with hk | hk
        · exact h4.2 hk
        · exact h4.1 hk
      have REF := Hid.mk' (rdeed_app nm da p2.rf HRK.out HT2.out hr0 har hud)
      clear q0 q1 q2 q3 q4 p p2 hT hud PP
      obtain ⟨q0, q1, q2, q3, q4⟩ := box5 P2.out.ax
      obtain ⟨c0, c1, c2, c3, c4⟩ := box5 P2.out.bx
      have hfb : ∀ j, w2.frozen? ⟨w.heap.size, j, none⟩ = false := fun j => by simp only [World.frozen?, P2.out.bx]; simp
      clear hfb
      go_wp2_with fail
      refine REF.out.mono ?_
      rintro E3 w3 ⟨rv, rfl, hrf, hb3⟩
      obtain ⟨vs3, vq3, rfl, hrf2⟩ := id hrf
      have hbx : w3.heap[w.heap.size]? = _ := (hb3.block w.heap.size (by have := P2.out.sz; omega)).trans P2.out.bx
      obtain ⟨xs1, xn1, xq1, rfl⟩ : ∃ a n c, vs3 = Value.slice a n c := (let ⟨a, c, e, _⟩ := hrf2.1.at; ⟨a, _, c, e⟩)
      obtain ⟨ys1, yn1, yq1, rfl⟩ : ∃ a n c, vq3 = Value.slice a n c := (let ⟨a, c, e, _⟩ := hrf2.2.at; ⟨a, _, c, e⟩)
      obtain ⟨W9, hW9, h9, hb9⟩ := stored5 hbx _ _ _ _ _
      have p9 := P2.out.ref hb3 hrf hb9 h9
      have P9 := Hid.mk' p9
      have HW9 := Hid.mk' hW9
      clear q0 q1 q2 q3 q4 c0 c1 c2 c3 c4 REF p9 h9 hb9 hb3 hrf hrf2 hW9
      obtain ⟨c0, c1, c2, c3, c4⟩ := box5 hbx
      have hfb : ∀ j, w3.frozen? ⟨w.heap.size, j, none⟩ = false := fun j => by simp only [World.frozen?, hbx]; simp
      clear hbx
      go_wp2_with fail
      rw [← HW9.out]
      go_meet
      obtain ⟨A9, p9⟩ := P9.out
      exact ⟨rfl, rfl, M2, D2, A9, _, ⟨_, _, _, _, _, rfl⟩, p9⟩
    by_cases h2 : kd = 2
    · subst h2
      have PP := HP.out
      have p := PP
      obtain ⟨q0, q1, q2, q3, q4⟩ := box5 p.ax
      clear p
      go_wp2_with fail
      have p := HP.out
      refine (write_any nm da n _ p.dr HN1.out gb ht hr hf2 hl hq).mono ?_
      rintro E2 w2 ⟨rfl, hT⟩
      obtain ⟨M2, D2, p2⟩ := p.drive hT
      have P2 := Hid.mk' p2
      have hud : Bs (fun k => (A k ∨ Aa k) ∧ k < w.heap.size) w2 (.slice ua da.length uc) da := HUA.out.wb p2.wb fun k hk hk2 => by
        have h4 := HDA.out k hk2
        rcases hk with hk | hk
        · exact h4.2 hk
        · exact h4.1 hk
      have REF := Hid.mk' (rdeed_write nm da n p2.rf HRK.out HT2.out hr0 har ⟨hn1, hn2⟩ hud)
      clear q0 q1 q2 q3 q4 p p2 hT hud PP
      obtain ⟨q0, q1, q2, q3, q4⟩ := box5 P2.out.ax
      obtain ⟨c0, c1, c2, c3, c4⟩ := box5 P2.out.bx
      have hfb : ∀ j, w2.frozen? ⟨w.heap.size, j, none⟩ = false := fun j => by simp only [World.frozen?, P2.out.bx]; simp
      clear hfb
      go_wp2_with fail
      refine REF.out.mono ?_
      rintro E3 w3 ⟨rv, rfl, hrf, hb3⟩
      obtain ⟨vs3, vq3, rfl, hrf2⟩ := id hrf
      have hbx : w3.heap[w.heap.size]? = _ := (hb3.block w.heap.size (by have := P2.out.sz; omega)).trans P2.out.bx
      obtain ⟨xs1, xn1, xq1, rfl⟩ : ∃ a n c, vs3 = Value.slice a n c := (let ⟨a, c, e, _⟩ := hrf2.1.at; ⟨a, _, c, e⟩)
      obtain ⟨ys1, yn1, yq1, rfl⟩ : ∃ a n c, vq3 = Value.slice a n c := (let ⟨a, c, e, _⟩ := hrf2.2.at; ⟨a, _, c, e⟩)
      obtain ⟨W9, hW9, h9, hb9⟩ := stored5 hbx _ _ _ _ _
      have p9 := P2.out.ref hb3 hrf hb9 h9
      have P9 := Hid.mk' p9
      have HW9 := Hid.mk' hW9
      clear q0 q1 q2 q3 q4 c0 c1 c2 c3 c4 REF p9 h9 hb9 hb3 hrf hrf2 hW9
      obtain ⟨c0, c1, c2, c3, c4⟩ := box5 hbx
      have hfb : ∀ j, w3.frozen? ⟨w.heap.size, j, none⟩ = false := fun j => by simp only [World.frozen?, hbx]; simp
      clear hbx
      go_wp2_with fail
      rw [← HW9.out]
      go_meet
      obtain ⟨A9, p9⟩ := P9.out
      exact ⟨rfl, rfl, M2, D2, A9, _, ⟨_, _, _, _, _, rfl⟩, p9⟩
    by_cases h3 : kd = 3
    · subst h3
      have PP := HP.out
      have p := PP
      obtain ⟨q0, q1, q2, q3, q4⟩ := box5 p.ax
      clear p
      go_wp2_with fail
      have p := HP.out
      refine (trim_any nm n p.dr HN1.out hl hq hz).mono ?_
      rintro E2 w2 ⟨rfl, hT⟩
      obtain ⟨M2, D2, p2⟩ := p.drive hT
      have P2 := Hid.mk' p2
      have hud : Bs (fun k => (A k ∨ Aa k) ∧ k < w.heap.size) w2 (.slice ua da.length uc) da := HUA.out.wb p2.wb fun k hk hk2 => by
        have h4 := HDA.out k hk2
        rcases hk with hk | hk
        · exact h4.2 hk
        · exact h4.1 hk
      have REF := Hid.mk' (rdeed_trim nm n p2.rf HRK.out HT2.out hr0 har ⟨hn1, hn2⟩)
      clear q0 q1 q2 q3 q4 p p2 hT hud PP
      obtain ⟨q0, q1, q2, q3, q4⟩ := box5 P2.out.ax
      obtain ⟨c0, c1, c2, c3, c4⟩ := box5 P2.out.bx
      have hfb : ∀ j, w2.frozen? ⟨w.heap.size, j, none⟩ = false := fun j => by simp only [World.frozen?, P2.out.bx]; simp
      clear hfb
      go_wp2_with fail
      refine REF.out.mono ?_
      rintro E3 w3 ⟨rv, rfl, hrf, hb3⟩
      obtain ⟨vs3, vq3, rfl, hrf2⟩ := id hrf
      have hbx : w3.heap[w.heap.size]? = _ := (hb3.block w.heap.size (by have := P2.out.sz; omega)).trans P2.out.bx
      obtain ⟨xs1, xn1, xq1, rfl⟩ : ∃ a n c, vs3 = Value.slice a n c := (let ⟨a, c, e, _⟩ := hrf2.1.at; ⟨a, _, c, e⟩)
      obtain ⟨ys1, yn1, yq1, rfl⟩ : ∃ a n c, vq3 = Value.slice a n c := (let ⟨a, c, e, _⟩ := hrf2.2.at; ⟨a, _, c, e⟩)
      obtain ⟨W9, hW9, h9, hb9⟩ := stored5 hbx _ _ _ _ _
      have p9 := P2.out.ref hb3 hrf hb9 h9
      have P9 := Hid.mk' p9
      have HW9 := Hid.mk' hW9
      clear q0 q1 q2 q3 q4 c0 c1 c2 c3 c4 REF p9 h9 hb9 hb3 hrf hrf2 hW9
      obtain ⟨c0, c1, c2, c3, c4⟩ := box5 hbx
      have hfb : ∀ j, w3.frozen? ⟨w.heap.size, j, none⟩ = false := fun j => by simp only [World.frozen?, hbx]; simp
      clear hbx
      go_wp2_with fail
      rw [← HW9.out]
      go_meet
      obtain ⟨A9, p9⟩ := P9.out
      exact ⟨rfl, rfl, M2, D2, A9, _, ⟨_, _, _, _, _, rfl⟩, p9⟩
    by_cases h4 : kd = 4
    · subst h4
      have PP := HP.out
      have p := PP
      obtain ⟨q0, q1, q2, q3, q4⟩ := box5 p.ax
      clear p
      go_wp2_with fail
      have p := HP.out
      refine (rename_any nm tn p.dr HN1.out HN2.out hl hq).mono ?_
      rintro E2 w2 ⟨rfl, hT⟩
      obtain ⟨M2, D2, p2⟩ := p.drive hT
      have P2 := Hid.mk' p2
      have hud : Bs (fun k => (A k ∨ Aa k) ∧ k < w.heap.size) w2 (.slice ua da.length uc) da := HUA.out.wb p2.wb fun k hk hk2 => by
        have h4 := HDA.out k hk2
        rcases hk with hk | hk
        · exact h4.2 hk
        · exact h4.1 hk
      have REF := Hid.mk' (rdeed_ren nm tn p2.rf HRK.out HT2.out hr0 har)
      clear q0 q1 q2 q3 q4 p p2 hT hud PP
      obtain ⟨q0, q1, q2, q3, q4⟩ := box5 P2.out.ax
      obtain ⟨c0, c1, c2, c3, c4⟩ := box5 P2.out.bx
      have hfb : ∀ j, w2.frozen? ⟨w.heap.size, j, none⟩ = false := fun j => by simp only [World.frozen?, P2.out.bx]; simp
      clear hfb
      go_wp2_with fail
      refine REF.out.mono ?_
      rintro E3 w3 ⟨rv, rfl, hrf, hb3⟩
      obtain ⟨vs3, vq3, rfl, hrf2⟩ := id hrf
      have hbx : w3.heap[w.heap.size]? = _ := (hb3.block w.heap.size (by have := P2.out.sz; omega)).trans P2.out.bx
      obtain ⟨xs1, xn1, xq1, rfl⟩ : ∃ a n c, vs3 = Value.slice a n c := (let ⟨a, c, e, _⟩ := hrf2.1.at; ⟨a, _, c, e⟩)
      obtain ⟨ys1, yn1, yq1, rfl⟩ : ∃ a n c, vq3 = Value.slice a n c := (let ⟨a, c, e, _⟩ := hrf2.2.at; ⟨a, _, c, e⟩)
      obtain ⟨W9, hW9, h9, hb9⟩ := stored5 hbx _ _ _ _ _
      have p9 := P2.out.ref hb3 hrf hb9 h9
      have P9 := Hid.mk' p9
      have HW9 := Hid.mk' hW9
      clear q0 q1 q2 q3 q4 c0 c1 c2 c3 c4 REF p9 h9 hb9 hb3 hrf hrf2 hW9
      obtain ⟨c0, c1, c2, c3, c4⟩ := box5 hbx
      have hfb : ∀ j, w3.frozen? ⟨w.heap.size, j, none⟩ = false := fun j => by simp only [World.frozen?, hbx]; simp
      clear hbx
      go_wp2_with fail
      rw [← HW9.out]
      go_meet
      obtain ⟨A9, p9⟩ := P9.out
      exact ⟨rfl, rfl, M2, D2, A9, _, ⟨_, _, _, _, _, rfl⟩, p9⟩
    by_cases h5 : kd = 5
    · subst h5
      have PP := HP.out
      have p := PP
      obtain ⟨q0, q1, q2, q3, q4⟩ := box5 p.ax
      clear p
      go_wp2_with fail
      have p := HP.out
      refine (remove_any nm p.dr HN1.out hl hq).mono ?_
      rintro E2 w2 ⟨rfl, hT⟩
      obtain ⟨M2, D2, p2⟩ := p.drive hT
      have P2 := Hid.mk' p2
      have hud : Bs (fun k => (A k ∨ Aa k) ∧ k < w.heap.size) w2 (.slice ua da.length uc) da := HUA.out.wb p2.wb fun k hk hk2 => by
        have h4 := HDA.out k hk2
        rcases hk with hk | hk
        · exact h4.2 hk
        · exact h4.1 hk
      have REF := Hid.mk' (rdeed_rem nm p2.rf HRK.out HT2.out hr0 har)
      clear q0 q1 q2 q3 q4 p p2 hT hud PP
      obtain ⟨q0, q1, q2, q3, q4⟩ := box5 P2.out.ax
      obtain ⟨c0, c1, c2, c3, c4⟩ := box5 P2.out.bx
      have hfb : ∀ j, w2.frozen? ⟨w.heap.size, j, none⟩ = false := fun j => by simp only [World.frozen?, P2.out.bx]; simp
      clear hfb
      go_wp2_with fail
      refine REF.out.mono ?_
      rintro E3 w3 ⟨rv, rfl, hrf, hb3⟩
      obtain ⟨vs3, vq3, rfl, hrf2⟩ := id hrf
      have hbx : w3.heap[w.heap.size]? = _ := (hb3.block w.heap.size (by have := P2.out.sz; omega)).trans P2.out.bx
      obtain ⟨xs1, xn1, xq1, rfl⟩ : ∃ a n c, vs3 = Value.slice a n c := (let ⟨a, c, e, _⟩ := hrf2.1.at; ⟨a, _, c, e⟩)
      obtain ⟨ys1, yn1, yq1, rfl⟩ : ∃ a n c, vq3 = Value.slice a n c := (let ⟨a, c, e, _⟩ := hrf2.2.at; ⟨a, _, c, e⟩)
      obtain ⟨W9, hW9, h9, hb9⟩ := stored5 hbx _ _ _ _ _
      have p9 := P2.out.ref hb3 hrf hb9 h9
      have P9 := Hid.mk' p9
      have HW9 := Hid.mk' hW9
      clear q0 q1 q2 q3 q4 c0 c1 c2 c3 c4 REF p9 h9 hb9 hb3 hrf hrf2 hW9
      obtain ⟨c0, c1, c2, c3, c4⟩ := box5 hbx
      have hfb : ∀ j, w3.frozen? ⟨w.heap.size, j, none⟩ = false := fun j => by simp only [World.frozen?, hbx]; simp
      clear hbx
      go_wp2_with fail
      rw [← HW9.out]
      go_meet
      obtain ⟨A9, p9⟩ := P9.out
      exact ⟨rfl, rfl, M2, D2, A9, _, ⟨_, _, _, _, _, rfl⟩, p9⟩
    by_cases h6 : kd = 6
    · subst h6
      have PP := HP.out
      have p := PP
      obtain ⟨q0, q1, q2, q3, q4⟩ := box5 p.ax
      clear p
      go_wp2_with fail
      have p := HP.out
      refine (flush_any p.dr).mono ?_
      rintro E2 w2 ⟨rfl, hT⟩
      obtain ⟨M2, D2, p2⟩ := p.drive hT
      have P2 := Hid.mk' p2
      have hud : Bs (fun k => (A k ∨ Aa k) ∧ k < w.heap.size) w2 (.slice ua da.length uc) da := HUA.out.wb p2.wb fun k hk hk2 => by
        have h4 := HDA.out k hk2
        rcases hk with hk | hk
        · exact h4.2 hk
        · exact h4.1 hk
      have REF := Hid.mk' (rdeed_flush p2.rf HRK.out HT2.out hr0 har)
      clear q0 q1 q2 q3 q4 p p2 hT hud PP
      obtain ⟨q0, q1, q2, q3, q4⟩ := box5 P2.out.ax
      obtain ⟨c0, c1, c2, c3, c4⟩ := box5 P2.out.bx
      have hfb : ∀ j, w2.frozen? ⟨w.heap.size, j, none⟩ = false := fun j => by simp only [World.frozen?, P2.out.bx]; simp
      clear hfb
      go_wp2_with fail
      refine REF.out.mono ?_
      rintro E3 w3 ⟨rv, rfl, hrf, hb3⟩
      obtain ⟨vs3, vq3, rfl, hrf2⟩ := id hrf
      have hbx : w3.heap[w.heap.size]? = _ := (hb3.block w.heap.size (by have := P2.out.sz; omega)).trans P2.out.bx
      obtain ⟨xs1, xn1, xq1, rfl⟩ : ∃ a n c, vs3 = Value.slice a n c := (let ⟨a, c, e, _⟩ := hrf2.1.at; ⟨a, _, c, e⟩)
      obtain ⟨ys1, yn1, yq1, rfl⟩ : ∃ a n c, vq3 = Value.slice a n c := (let ⟨a, c, e, _⟩ := hrf2.2.at; ⟨a, _, c, e⟩)
      obtain ⟨W9, hW9, h9, hb9⟩ := stored5 hbx _ _ _ _ _
      have p9 := P2.out.ref hb3 hrf hb9 h9
      have P9 := Hid.mk' p9
      have HW9 := Hid.mk' hW9
      clear q0 q1 q2 q3 q4 c0 c1 c2 c3 c4 REF p9 h9 hb9 hb3 hrf hrf2 hW9
      obtain ⟨c0, c1, c2, c3, c4⟩ := box5 hbx
      have hfb : ∀ j, w3.frozen? ⟨w.heap.size, j, none⟩ = false := fun j => by simp only [World.frozen?, hbx]; simp
      clear hbx
      go_wp2_with fail
      rw [← HW9.out]
      go_meet
      obtain ⟨A9, p9⟩ := P9.out
      exact ⟨rfl, rfl, M2, D2, A9, _, ⟨_, _, _, _, _, rfl⟩, p9⟩
    by_cases h7 : kd = 7
    · subst h7
      have PP := HP.out
      have p := PP
      obtain ⟨q0, q1, q2, q3, q4⟩ := box5 p.ax
      clear p
      go_wp2_with fail
      have p := HP.out
      refine (arm_any n p.dr hn2).mono ?_
      rintro E2 w2 ⟨rfl, hT⟩
      obtain ⟨M2, D2, p2⟩ := p.drive hT
      have P2 := Hid.mk' p2
      have hud : Bs (fun k => (A k ∨ Aa k) ∧ k < w.heap.size) w2 (.slice ua da.length uc) da := HUA.out.wb p2.wb fun k hk hk2 => by
        have h4 := HDA.out k hk2
        rcases hk with hk | hk
        · exact h4.2 hk
        · exact h4.1 hk
      have REF := Hid.mk' (rarm_any n p2.rf)
      clear q0 q1 q2 q3 q4 p p2 hT hud PP
      obtain ⟨q0, q1, q2, q3, q4⟩ := box5 P2.out.ax
      obtain ⟨c0, c1, c2, c3, c4⟩ := box5 P2.out.bx
      have hfb : ∀ j, w2.frozen? ⟨w.heap.size, j, none⟩ = false := fun j => by simp only [World.frozen?, P2.out.bx]; simp
      clear hfb
      go_wp2_with fail
      refine REF.out.mono ?_
      rintro E3 w3 ⟨rv, rfl, hrf, hb3⟩
      obtain ⟨vs3, vq3, rfl, hrf2⟩ := id hrf
      have hbx : w3.heap[w.heap.size]? = _ := (hb3.block w.heap.size (by have := P2.out.sz; omega)).trans P2.out.bx
      obtain ⟨xs1, xn1, xq1, rfl⟩ : ∃ a n c, vs3 = Value.slice a n c := (let ⟨a, c, e, _⟩ := hrf2.1.at; ⟨a, _, c, e⟩)
      obtain ⟨ys1, yn1, yq1, rfl⟩ : ∃ a n c, vq3 = Value.slice a n c := (let ⟨a, c, e, _⟩ := hrf2.2.at; ⟨a, _, c, e⟩)
      obtain ⟨W9, hW9, h9, hb9⟩ := stored5 hbx _ _ _ _ _
      have p9 := P2.out.ref hb3 hrf hb9 h9
      have P9 := Hid.mk' p9
      have HW9 := Hid.mk' hW9
      clear q0 q1 q2 q3 q4 c0 c1 c2 c3 c4 REF p9 h9 hb9 hb3 hrf hrf2 hW9
      obtain ⟨c0, c1, c2, c3, c4⟩ := box5 hbx
      have hfb : ∀ j, w3.frozen? ⟨w.heap.size, j, none⟩ = false := fun j => by simp only [World.frozen?, hbx]; simp
      clear hbx
      go_wp2_with fail
      rw [← HW9.out]
      go_meet
      obtain ⟨A9, p9⟩ := P9.out
      exact ⟨rfl, rfl, M2, D2, A9, _, ⟨_, _, _, _, _, rfl⟩, p9⟩
    by_cases h8 : kd = 8
    · subst h8
      have PP := HP.out
      have p := PP
      obtain ⟨q0, q1, q2, q3, q4⟩ := box5 p.ax
      clear p
      go_wp2_with fail
      have p := HP.out
      refine (crash_any n p.dr hqo hcl hcu hn1 hn2 hcq).mono ?_
      rintro E2 w2 ⟨rfl, hT⟩
      obtain ⟨M2, D2, p2⟩ := p.drive hT
      have P2 := Hid.mk' p2
      have hud : Bs (fun k => (A k ∨ Aa k) ∧ k < w.heap.size) w2 (.slice ua da.length uc) da := HUA.out.wb p2.wb fun k hk hk2 => by
        have h4 := HDA.out k hk2
        rcases hk with hk | hk
        · exact h4.2 hk
        · exact h4.1 hk
      have REF := Hid.mk' (rcrash_any n p2.rf HRK.out hun hn1 hn2)
      clear q0 q1 q2 q3 q4 p p2 hT hud PP
      obtain ⟨q0, q1, q2, q3, q4⟩ := box5 P2.out.ax
      obtain ⟨c0, c1, c2, c3, c4⟩ := box5 P2.out.bx
      have hfb : ∀ j, w2.frozen? ⟨w.heap.size, j, none⟩ = false := fun j => by simp only [World.frozen?, P2.out.bx]; simp
      clear hfb
      go_wp2_with fail
      refine REF.out.mono ?_
      rintro E3 w3 ⟨rv, rfl, hrf, hb3⟩
      obtain ⟨vs3, vq3, rfl, hrf2⟩ := id hrf
      have hbx : w3.heap[w.heap.size]? = _ := (hb3.block w.heap.size (by have := P2.out.sz; omega)).trans P2.out.bx
      obtain ⟨xs1, xn1, xq1, rfl⟩ : ∃ a n c, vs3 = Value.slice a n c := (let ⟨a, c, e, _⟩ := hrf2.1.at; ⟨a, _, c, e⟩)
      obtain ⟨ys1, yn1, yq1, rfl⟩ : ∃ a n c, vq3 = Value.slice a n c := (let ⟨a, c, e, _⟩ := hrf2.2.at; ⟨a, _, c, e⟩)
      obtain ⟨W9, hW9, h9, hb9⟩ := stored5 hbx _ _ _ _ _
      have p9 := P2.out.ref hb3 hrf hb9 h9
      have P9 := Hid.mk' p9
      have HW9 := Hid.mk' hW9
      clear q0 q1 q2 q3 q4 c0 c1 c2 c3 c4 REF p9 h9 hb9 hb3 hrf hrf2 hW9
      obtain ⟨c0, c1, c2, c3, c4⟩ := box5 hbx
      have hfb : ∀ j, w3.frozen? ⟨w.heap.size, j, none⟩ = false := fun j => by simp only [World.frozen?, hbx]; simp
      clear hbx
      go_wp2_with fail
      rw [← HW9.out]
      go_meet
      obtain ⟨A9, p9⟩ := P9.out
      exact ⟨rfl, rfl, M2, D2, A9, _, ⟨_, _, _, _, _, rfl⟩, p9⟩
    by_cases h9 : kd = 9
    · subst h9
      have PP := HP.out
      have p := PP
      obtain ⟨q0, q1, q2, q3, q4⟩ := box5 p.ax
      clear p
      go_wp2_with fail
      have p := HP.out
      refine (wipe_any p.dr).mono ?_
      rintro E2 w2 ⟨rfl, hT⟩
      obtain ⟨M2, D2, p2⟩ := p.drive hT
      have P2 := Hid.mk' p2
      have hud : Bs (fun k => (A k ∨ Aa k) ∧ k < w.heap.size) w2 (.slice ua da.length uc) da := HUA.out.wb p2.wb fun k hk hk2 => by
        have h4 := HDA.out k hk2
        rcases hk with hk | hk
        · exact h4.2 hk
        · exact h4.1 hk
      have REF := Hid.mk' (rwipe_any (w := w2) (vs := .slice sa r.safe.length sc) (vq := .slice qa r.queue.length qc) (room := r.room) (armed := r.armed) (dead := r.dead))
      clear q0 q1 q2 q3 q4 p p2 hT hud PP
      obtain ⟨q0, q1, q2, q3, q4⟩ := box5 P2.out.ax
      obtain ⟨c0, c1, c2, c3, c4⟩ := box5 P2.out.bx
      have hfb : ∀ j, w2.frozen? ⟨w.heap.size, j, none⟩ = false := fun j => by simp only [World.frozen?, P2.out.bx]; simp
      clear hfb
      go_wp2_with fail
      refine REF.out.mono ?_
      rintro E3 w3 ⟨rv, rfl, hrf, hb3⟩
      obtain ⟨vs3, vq3, rfl, hrf2⟩ := id hrf
      have hbx : w3.heap[w.heap.size]? = _ := (hb3.block w.heap.size (by have := P2.out.sz; omega)).trans P2.out.bx
      obtain ⟨xs1, xn1, xq1, rfl⟩ : ∃ a n c, vs3 = Value.slice a n c := (let ⟨a, c, e, _⟩ := hrf2.1.at; ⟨a, _, c, e⟩)
      obtain ⟨ys1, yn1, yq1, rfl⟩ : ∃ a n c, vq3 = Value.slice a n c := (let ⟨a, c, e, _⟩ := hrf2.2.at; ⟨a, _, c, e⟩)
      obtain ⟨W9, hW9, h9, hb9⟩ := stored5 hbx _ _ _ _ _
      have p9 := P2.out.ref hb3 (hrf.monoS fun k hk => hk.imp (fun h => h.elim) id) hb9 h9
      have P9 := Hid.mk' p9
      have HW9 := Hid.mk' hW9
      clear q0 q1 q2 q3 q4 c0 c1 c2 c3 c4 REF p9 h9 hb9 hb3 hrf hrf2 hW9
      obtain ⟨c0, c1, c2, c3, c4⟩ := box5 hbx
      have hfb : ∀ j, w3.frozen? ⟨w.heap.size, j, none⟩ = false := fun j => by simp only [World.frozen?, hbx]; simp
      clear hbx
      go_wp2_with fail
      rw [← HW9.out]
      go_meet
      obtain ⟨A9, p9⟩ := P9.out
      exact ⟨rfl, rfl, M2, D2, A9, _, ⟨_, _, _, _, _, rfl⟩, p9⟩
    have HPA : Hid (plE d ⟨kd, nm, tn, n, da⟩ = 0 ∧ plF r ⟨kd, nm, tn, n, da⟩ = 0 ∧ plD d ⟨kd, nm, tn, n, da⟩ = d ∧ plR r ⟨kd, nm, tn, n, da⟩ = r) := by
      refine ⟨?_, ?_, ?_, ?_⟩
      · simp [plE, h1, h2, h3, h4, h5, h6]
      · simp [plF, h1, h2, h3, h4, h5, h6]
      · simp [plD, h1, h2, h3, h4, h5, h6, h7, h8, h9]
      · simp [plR, h1, h2, h3, h4, h5, h6, h7, h8, h9]
    have g1 : (kd == 1) = false := by simpa using h1
    have g2 : (kd == 2) = false := by simpa using h2
    have g3 : (kd == 3) = false := by simpa using h3
    have g4 : (kd == 4) = false := by simpa using h4
    have g5 : (kd == 5) = false := by simpa using h5
    have g6 : (kd == 6) = false := by simpa using h6
    have g7 : (kd == 7) = false := by simpa using h7
    have g8 : (kd == 8) = false := by simpa using h8
    have g9 : (kd == 9) = false := by simpa using h9
    clear h1 h2 h3 h4 h5 h6 h7 h8 h9
    obtain ⟨q0, q1, q2, q3, q4⟩ := box5 HP.out.ax
    go_wp2_with fail
    go_meet
    exact ⟨by rw [HPA.out.1], by rw [HPA.out.2.1], M, D, _, _, ⟨_, _, _, _, _, rfl⟩, by rw [HPA.out.2.2.1, HPA.out.2.2.2]; exact HP.out⟩
  case rest =>
    obtain ⟨rfl, rfl, HQ⟩ := hcut
    clear q0 q1 q2 q3 q4 HP
    obtain ⟨M1, D1, A1, vb, _, p⟩ := HQ.out
    obtain ⟨vs3, vq3, e3, t3, o3⟩ := p.rf
    obtain ⟨xs1, xn1, xq1, rfl⟩ : ∃ a n c, vs3 = Value.slice a n c := (let ⟨a, c, e, _⟩ := t3.at; ⟨a, _, c, e⟩)
    obtain ⟨ys1, yn1, yq1, rfl⟩ : ∃ a n c, vq3 = Value.slice a n c := (let ⟨a, c, e, _⟩ := o3.at; ⟨a, _, c, e⟩)
    cases e3
    have HP := Hid.mk' p
    have HOV := Hid.mk' (over_any p.gv HU.out.2)
    clear p t3 o3 HQ
    generalize plE d ⟨kd, nm, tn, n, da⟩ = e8 at *
    generalize plF r ⟨kd, nm, tn, n, da⟩ = e9 at *
    rename World => wx
    go_wp2_with fail
    refine HOV.out.mono ?_
    rintro E wy ⟨rfl, _, hwy⟩
    have gl := HP.out.gv.lt
    have hsz := HP.out.sz
    have hbx : wy.heap[w.heap.size]? = _ := (hwy.block w.heap.size (by omega) (fun hx => by have := (gl _ hx).1; omega)).trans HP.out.bx
    have hzx : wy.heap[w.heap.size + 1 + 1]? = _ := (hwy.block (w.heap.size + 1 + 1) (by omega) (fun hx => by have := (gl _ hx).1; omega)).trans HP.out.zx
    have HZX := Hid.mk' hzx
    have HWY := Hid.mk' hwy
    obtain ⟨c0, c1, c2, c3, c4⟩ := box5 hbx
    obtain ⟨z0, z1, z2, z3, z4⟩ := box5 hzx
    have hfz : ∀ j, wy.frozen? ⟨w.heap.size + 1 + 1, j, none⟩ = false := fun j => by simp only [World.frozen?, hzx]; simp
    clear hbx hzx hwy gl hsz
    go_wp2_with fail
    obtain ⟨W9, hW9, h9, hb9⟩ := stored5 HZX.out (.slice xs1 xn1 xq1) (.slice ys1 yn1 yq1) (.int .i64 (plR r ⟨kd, nm, tn, n, da⟩).room) (.int .i64 (plR r ⟨kd, nm, tn, n, da⟩).armed) (.bool (plR r ⟨kd, nm, tn, n, da⟩).dead)
    rw [← hW9]
    clear hW9 c0 c1 c2 c3 c4 z0 z1 z2 z3 z4 hfz
    obtain ⟨z0, z1, z2, z3, z4⟩ := box5 h9
    have hD := HP.out.done ((HWY.out.mono fun k hk => .inl hk).trans (hb9.mono fun k hk => .inr hk)) (e8 == e9)
    exact bodyPost_ret (v := .tuple #[.agg #[.slice xs1 xn1 xq1, .slice ys1 yn1 yq1, .int .i64 (plR r ⟨kd, nm, tn, n, da⟩).room, .int .i64 (plR r ⟨kd, nm, tn, n, da⟩).armed, .bool (plR r ⟨kd, nm, tn, n, da⟩).dead], .bool (e8 == e9)]) (by simp [results, Try.results27, go_sem, z0, z1, z2, z3, z4]) rfl hD
end Go.Proofs.Ytpgpncngamagdaa
