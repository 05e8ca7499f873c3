/- leaf.Decode. -/
import Derived.Test.YtfmbbpfklhkljaaA14
set_option linter.unusedVariables false
set_option linter.unusedSimpArgs false
namespace Go.Proofs.Ytfmbbpfklhkljaa
open Go.RowKit
/-- what Decode says -/
def DecPost (w : World) (n : Nd) (k : Int) (e : Ending) (w' : World) : Prop :=
  ∃ kv vv cv, e = .returned (.tuple #[.agg #[.bool n.leaf, kv, vv, cv], .int .i64 k]) ∧ Obb 0 w.heap.size w' kv n.keys ∧ Obb 0 w.heap.size w' vv n.vals ∧ w'.ownsRow w.heap.size 3 1 cv n.kids.length (iv n.kids) ∧ Below w.heap.size w w' ∧
    n.keys.length ≤ 65536 ∧ n.vals.length ≤ 65536 ∧ n.kids.length ≤ 65536 ∧ ∀ x ∈ n.kids, 0 ≤ x ∧ x ≤ 65535
theorem lays28 (x : Value) (w : World) (a : Option Addr) (n c : Nat) (hx : x = .slice a n c) : (Instr.buildSlice 28 1 #[(0, x)]).run Try.prog w = .ok (.slice (some ⟨w.heap.size, 0, none⟩) 1 1) (w.alloc (.cells #[x] 32)) := by
  subst hx; kernel_rfl
theorem lays291 (x : Int) (w : World) : (Instr.buildSlice 29 1 #[(0, .int .i64 x)]).run Try.prog w = .ok (.slice (some ⟨w.heap.size, 0, none⟩) 1 1) (w.alloc (.cells #[.int .i64 x] 3)) := by
  kernel_rfl
theorem ents_step {m k : Nat} {n : Nd} {c : Cu} (h : k < m) (hc : c.bad = false) : ents (m - k) n c = ents (m - (k + 1)) (entN n c) (entC n.leaf c) := by
  rw [show m - k = (m - (k + 1)) + 1 by omega, ents, hc]; simp
theorem ents_done {m k : Nat} {n : Nd} {c : Cu} (h : m ≤ k) : ents (m - k) n c = (n, c) := by rw [show m - k = 0 by omega]; rfl
theorem dec_short {p : List UInt8} (h : p.length ≠ 512) : dec p = (none0, 2) := by unfold dec; rw [if_pos h]
theorem cur_drew {A : Nat → Prop} {b : Nat} {w : World} {c : Cu} (h : CurIs A b w c) : CurIs A b w.drew c := h
theorem Nod.drew {B nb : Nat} {w : World} {n : Nd} {kv vv cv : Value} (h : Nod B nb w n kv vv cv) : Nod B nb w.drew n kv vv cv := ⟨h.at_, h.keys, h.vals, h.kids, h.apart⟩
theorem CurIs.typed {A : Nat → Prop} {b : Nat} {w : World} {c : Cu} (h : CurIs A b w c) : ∃ cur fr, w.heap[b]? = some (.cells cur 111 fr) := by
  obtain ⟨v, h1, _⟩ := h; exact ⟨_, _, h1⟩
theorem CurIs.wb {X : Nat → Prop} {D b : Nat} {w w' : World} {c : Cu} (h : CurIs (Lt D) b w c) (hw : Wb X w w') (hD : D ≤ w.heap.size) (hX : ∀ k, X k → k ≠ b ∧ D ≤ k) : CurIs (Lt D) b w' c := by
  obtain ⟨cur, fr, hb⟩ := h.typed
  have hlt := (Array.getElem?_eq_some_iff.1 hb).1
  exact h.keep (hw.block b hlt fun e => (hX b e).1 rfl) fun i hi => hw.block i (Nat.lt_of_lt_of_le hi hD) fun e => by have := (hX i e).2; have : i < D := hi; omega
theorem zero4 (w : World) : (w.alloc (.cells #[.bool false, .slice none 0 0, .slice none 0 0, .slice none 0 0] 37)).heap[w.heap.size]? = some (.cells #[.bool false, .slice none 0 0, .slice none 0 0, .slice none 0 0] 37 (0, 0)) := heap_alloc_new w _
theorem rd_eq (p : List UInt8) : rd p = ents (cnt p) (n0 p) (c3 p) := rfl
theorem dec_eq {p : List UInt8} {n : Nd} {c : Cu} (hl : p.length = 512) (h : rd p = (n, c)) : dec p = if c.bad || c.b.any (· != 0) || (kind p != 1 && kind p != 2) || check n != 0 then (none0, 3) else (n, 0) := by
  unfold dec; rw [if_neg (by simpa using hl), h]
set_option maxRecDepth 100000 in
set_option maxHeartbeats 4000000 in
/-- leaf.Decode -/
theorem decode_any {A : Nat → Prop} {w : World} {v : Value} {p : List UInt8} (h : Bs A w v p) : Calls Try.prog 26 #[v] w (DecPost w (dec p).1 (dec p).2) := by
  obtain ⟨a, cp, rfl, hcp, hnn, _⟩ := h.at
  have HP := Hid.mk' h.toLt
  have hlim : p.length ≤ 140737488351232 := h.2
  clear h
  by_cases hlen : p.length = 512
  · have hl' : ((p.length : Int) != 512) = false := by simp; omega
    have HLEN := Hid.mk' hlen
    clear hlen
    have HA : Hid (∀ i, Lt w.heap.size i → i < w.heap.size + 1) := fun i hi => by have : i < w.heap.size := hi; omega
    have hz0 := zero4 w
    obtain ⟨W1, hW1⟩ : ∃ W1, W1 = w.alloc (.cells #[.bool false, .slice none 0 0, .slice none 0 0, .slice none 0 0] 37) := ⟨_, rfl⟩
    have hW1s : W1.heap.size = w.heap.size + 1 := by rw [hW1]; simp
    have hb1 : Below w.heap.size w W1 := by rw [hW1]; exact up_alloc _ _
    rw [← hW1] at hz0
    obtain ⟨W2, hW2⟩ : ∃ W2, W2 = W1.alloc (.cells #[.slice a p.length cp, .bool false] 111) := ⟨_, rfl⟩
    have hb2 : Below W1.heap.size W1 W2 := by rw [hW2]; exact up_alloc _ _
    have hcur : CurIs (Lt w.heap.size) (w.heap.size + 1) W2 ⟨p, false⟩ := ⟨_, by rw [hW2, ← hW1s]; exact heap_alloc_new W1 _, HP.out.up (bt hb1 hb2)⟩
    have hz2 : W2.heap[w.heap.size]? = some (.cells #[.bool false, .slice none 0 0, .slice none 0 0, .slice none 0 0] 37 (0, 0)) := by rw [hb2.block _ (by omega)]; exact hz0
    have HONE := Hid.mk' (one_any HA.out hcur)
    have HZ2 := Hid.mk' hz2
    have HB2 := Hid.mk' (bt hb1 hb2)
    have HS2 : Hid (W2.heap.size = w.heap.size + 2) := by show _ = _; rw [hW2]; simp; omega
    go_enter Try.func26, Try.ntmps26
    go_wp2_with fail
    have he : ((w.alloc (.cells #[.bool false, .slice none 0 0, .slice none 0 0, .slice none 0 0] 37)).alloc (.cells #[.slice a p.length cp, .bool false] 111)) = W2 := by rw [hW2, hW1]
    rw [he]
    clear he hW1 hW2 hz0 hb1 hb2 hcur hz2 hW1s W1
    refine HONE.out.mono ?_
    rintro e w3 ⟨rfl, h3, cc3⟩
    have W3 := Hid.mk' (Wb.of_grown h3)
    have C3 := Hid.mk' cc3
    clear h3 cc3
    have hk255 := on_le ⟨p, false⟩
    have HKD : Hid (kind p = on ⟨p, false⟩) := rfl
    rw [show tkc 1 ⟨p, false⟩ = c1 p from rfl] at C3
    rw [← HKD.out] at hk255 ⊢
    by_cases hkd : kind p = 1
    · have HKD1 := Hid.mk' hkd
      have hk1 : ((kind p : Int) == 1) = true := by simp; omega
      clear hkd
      have hnb : w.heap.size + 2 ≤ w3.heap.size := by have := W3.out.size; have := HS2.out; omega
      obtain ⟨W4, hW4⟩ : ∃ W4, W4 = w3.alloc (.cells #[.bool true, .slice none 0 0, .slice none 0 0, .slice none 0 0] 37) := ⟨_, rfl⟩
      have hb4 : Below w3.heap.size w3 W4 := by rw [hW4]; exact up_alloc _ _
      have hat4 : W4.heap[w3.heap.size]? = some (.cells #[.bool true, .slice none 0 0, .slice none 0 0, .slice none 0 0] 37 (0, 0)) := by rw [hW4]; exact heap_alloc_new w3 _
      have N4 : Hid (Nod w.heap.size w3.heap.size W4 ⟨true, [], [], []⟩ (.slice none 0 0) (.slice none 0 0) (.slice none 0 0)) := ⟨hat4, obb_nil, obb_nil, World.ownsRow_nil _ _ _ _, fun k hk => by cases hk⟩
      have C4 := C3.out.wb (Wb.of_below (fun k => w3.heap.size ≤ k) hb4) (by omega) (fun k hk => by have : w3.heap.size ≤ k := hk; omega)
      have Z4 : W4.heap[w.heap.size]? = some (.cells #[.bool false, .slice none 0 0, .slice none 0 0, .slice none 0 0] 37 (0, 0)) := by
        rw [hb4.block _ (by omega), W3.out.block _ (by have := HS2.out; omega) (by simp)]; exact HZ2.out
      have B4 : Below w.heap.size w W4 := (HB2.out.trans (W3.out.below (by have := HS2.out; omega) (fun k hk => by simp at hk; omega))).trans (hb4.mono (by omega))
      have HTWO := Hid.mk' (ctwo_any HA.out C4)
      have C4 := Hid.mk' C4
      have Z4 := Hid.mk' Z4
      have B4 := Hid.mk' B4
      have HS4 : Hid (w3.heap.size < W4.heap.size) := Hid.mk' N4.out.lt
      go_wp2_with fail
      rw [← hW4]
      clear hW4 hb4 hat4
      refine HTWO.out.mono ?_
      rintro e w5 ⟨rfl, h5, cc5⟩
      have W5 := Hid.mk' (Wb.of_grown h5)
      have C5 : Hid (CurIs (Lt w.heap.size) (w.heap.size + 1) w5 (c2 p)) := cc5
      have HCN : Hid (cnt p = tw (c1 p)) := rfl
      rw [← HCN.out]
      have hcn : cnt p ≤ 65535 := by rw [HCN.out]; exact tw_le _
      have N5 : Hid (Nod w.heap.size w3.heap.size w5 ⟨true, [], [], []⟩ (.slice none 0 0) (.slice none 0 0) (.slice none 0 0)) := N4.out.wb W5.out fun k hk => by
        obtain rfl : k = w.heap.size + 1 := by simpa using hk
        obtain ⟨cur, fr, ht⟩ := C4.out.typed
        exact ⟨cur, fr, 111, ht, by decide, by decide, by decide, by decide⟩
      have Z5 : Hid (w5.heap[w.heap.size]? = some (.cells #[.bool false, .slice none 0 0, .slice none 0 0, .slice none 0 0] 37 (0, 0))) := by
        show _ = _
        rw [W5.out.block _ (by have := HS4.out; omega) (by simp)]; exact Z4.out
      have B5 := Hid.mk' (B4.out.trans (W5.out.below (by have := HS4.out; omega) (fun k hk => by simp at hk; omega)))
      clear h5 cc5
      obtain ⟨⟨b0, b1, b2, b3⟩, bf⟩ := cells4_get N5.out.at_
      have bf := bf 3
      generalize hNB : w3.heap.size = nb at *
      have hnb2 : w.heap.size + 2 ≤ nb := hnb
      clear hNB
      have HR0 : Hid (ents (cnt p - 0) ⟨true, [], [], []⟩ (c2 p) = rd p) := by
        show _ = _
        rw [rd_eq]; unfold n0 c3; rw [if_pos HKD1.out, if_pos HKD1.out]; rfl
      go_wp2_with fail
      clear b0 b1 b2 b3 bf
      go_loopw [8] (fun i wr => ∃ (k : Nat) (n : Nd) (c : Cu) (kv vv cv : Value), i = .int .i64 k ∧ k ≤ cnt p ∧ n.leaf = true ∧ Hid (Nod w.heap.size nb wr n kv vv cv) ∧ Hid (CurIs (Lt w.heap.size) (w.heap.size + 1) wr c) ∧ Hid (Below w.heap.size w wr) ∧ Hid (ents (cnt p - k) n c = rd p) ∧ Hid (n.keys.length ≤ k ∧ n.vals.length ≤ k ∧ n.kids.length ≤ k + 1 ∧ ∀ x ∈ n.kids, 0 ≤ x ∧ x ≤ 65535) ∧ Hid (wr.heap[w.heap.size]? = some (.cells #[.bool false, .slice none 0 0, .slice none 0 0, .slice none 0 0] 37 (0, 0)))) (fun i _ => cnt p - (intOf i).toNat)
      case atStart => exact ⟨0, _, _, _, _, _, rfl, by omega, rfl, N5, C5, B5, HR0, Hid.mk' (by simp), Z5⟩
      case round =>
        obtain ⟨k, n, c, kv, vv, cv, rfl, hk, hlf, HN, HC, HB, HR, HL, HZ⟩ := hrel
        obtain ⟨vb, hvb, hbs⟩ := HC.out
        obtain ⟨ab, cbp, rfl, _⟩ := hbs.at
        obtain ⟨d0, d1, df⟩ := cells2_get hvb
        obtain ⟨⟨b0, b1, b2, b3⟩, bf⟩ := cells4_get HN.out.at_
        rw [hlf] at b0
        have hlr := HN.out.lt
        have HBS := Hid.mk' hbs
        have HLF := Hid.mk' hlf
        clear hvb hbs
        by_cases hlt : k < cnt p
        · have hlt' : ((k : Int) < (cnt p : Int)) := by omega
          have hdt : decide ((k : Int) < (cnt p : Int)) = true := by simp; omega
          cases hbad : c.bad with
          | true =>
            rw [hbad] at d1
            have HRD : Hid (rd p = (n, c)) := by rw [← HR.out]; exact ents_bad _ _ _ hbad
            have HBAD := Hid.mk' hbad
            clear hbad
            have HDQ : Hid (dec p = (none0, 3)) := by show _ = _; rw [dec_eq HLEN.out HRD.out, HBAD.out]; rfl
            have HCF := Hid.mk' (c71 HBS.out)
            obtain ⟨⟨z0, z1, z2, z3⟩, zf⟩ := cells4_get HZ.out
            go_wp2_with fail
            refine HCF.out.mono ?_
            rintro e w9 ⟨rfl, rfl⟩
            go_wp2_with fail
            refine bodyPost_ret (v := .tuple #[.agg #[.bool false, .slice none 0 0, .slice none 0 0, .slice none 0 0], .int .i64 3]) (by simp [results, Try.results26, go_sem, z0, z1, z2, z3]) rfl ?_
            refine ⟨_, _, _, by rw [HDQ.out]; rfl, ?_, ?_, ?_, ?_, ?_⟩ <;> try rw [HDQ.out]
            · exact obb_nil
            · exact obb_nil
            · exact World.ownsRow_nil _ _ _ _
            · exact (((HB.out.setCell (p := ⟨w.heap.size, 0, none⟩) (Nat.le_refl _) _).setCell (p := ⟨w.heap.size, 1, none⟩) (Nat.le_refl _) _).setCell (p := ⟨w.heap.size, 2, none⟩) (Nat.le_refl _) _).setCell (p := ⟨w.heap.size, 3, none⟩) (Nat.le_refl _) _
            · simp [none0]
          | false =>
            rw [hbad] at d1
            have HST : Hid (ents (cnt p - (k + 1)) (entN n c) (entC n.leaf c) = rd p) := by rw [← HR.out]; exact (ents_step hlt hbad).symm
            clear hbad
            have HAc : Hid (∀ i, Lt w.heap.size i → i < (w.heap.size + 1)) := fun i hi => by have : i < w.heap.size := hi; omega
            have hng1 : ¬ (nb = (w.heap.size + 1) ∨ some nb = kv.ownBlock) := by
              rintro (e | e)
              · omega
              · obtain ⟨_, _, _, h1⟩ := HN.out.keys.typed _ e.symm; exact absurd (typed_ne h1 HN.out.at_) (by decide)
            have hrr : ∀ q : Kp (fun b => b = (w.heap.size + 1) ∨ some b = kv.ownBlock) wr, q.nx.cell? ⟨nb, 1, none⟩ = some kv := fun q => q.cell (by have := (cells4_get HN.out.at_).1; exact this.2.1) hng1
            go_wp2_with fail
            refine wp_region_mix 9 (fun w' => ∃ q : Kp (fun b => b = (w.heap.size + 1) ∨ some b = kv.ownBlock) wr, w' = q.nx) (by kernel_rfl) (by kernel_rfl) (kp_first _ wr) ?_
            simp only [List.take_succ_cons, List.take_zero, List.drop_succ_cons, List.drop_zero]
            refine mx_take 4 rfl ?_
            simp only [List.take_succ_cons, List.take_zero, List.drop_succ_cons, List.drop_zero]
            repeat (go_big_quiet_step (fail))
            refine wpQuiet_nil ?_
            refine mx_call (vals := [.pointer (some ⟨(w.heap.size + 1), 0, none⟩)]) Try.func68 (by kernel_rfl) rfl rfl (by kernel_rfl) (by kernel_rfl) (one_any HAc.out (cur_drew HC.out)) (fun e wa ha => ?_)
            obtain ⟨rfl, ga, ca⟩ := ha
            refine ⟨_, rfl, kp_mk ga.size fun b hb hx => ga.block b hb (fun e => hx (.inl (by simpa using e))), ?_⟩
            simp only [Act.put, List.setIfInBounds_toArray, List.set_cons_succ, List.set_cons_zero]
            refine mx_call (vals := [.pointer (some ⟨(w.heap.size + 1), 0, none⟩), .int .i64 (on c : Nat)]) Try.func70 (by kernel_rfl) rfl rfl (by kernel_rfl) (by kernel_rfl) (take_any _ (Nat.le_trans (on_le c) (by decide)) HAc.out ca) (fun e wb hb' => ?_)
            obtain ⟨vt, rfl, ot, gb, cb'⟩ := hb'
            have ga0 : wr.grownBy wa (some (w.heap.size + 1)) := ⟨ga.os, ga.tape, ga.output, ga.size, ga.block⟩
            have gab := Wb.of_grown (grown_trans ga0 gb)
            refine ⟨_, rfl, kp_mk gab.size fun b hb hx => gab.block b hb (fun e => hx (.inl (by simpa using e))), ?_⟩
            simp only [Act.put, List.setIfInBounds_toArray, List.set_cons_succ, List.set_cons_zero]
            have hNb := HN.out.wb gab fun k hk => by
              obtain rfl : k = (w.heap.size + 1) := by simpa using hk
              obtain ⟨cur, fr, ht⟩ := HC.out.typed
              exact ⟨cur, fr, 111, ht, by decide, by decide, by decide, by decide⟩
            have htl := tk_length (on c) (tkc 1 c)
            have hmle : (on c : Nat) ≤ 65535 := Nat.le_trans (on_le c) (by decide)
            obtain ⟨at', ct', et, _⟩ := (ot.bs (by rw [htl]; unfold lim; omega)).at
            obtain ⟨un, wc, r1, r2, r3, r4, r5, r6⟩ := nod_key hNb (ot.mono (Nat.zero_le _)) (by rw [htl]; unfold lim; omega) (by have := HL.out.1; have := HL.out.2.1; unfold lim; omega) (by have := hNb.lt; omega)
            refine mx_make (by rfl) (by kernel_rfl) (by simp only [execOp, List.map_toArray, List.map_cons, List.map_nil, go_sem]; exact run_v (lays28 _ _ _ _ _ et)) (kp_mk (Nat.le_trans gab.size (up_alloc _ _).size) fun b hb hx => by rw [(up_alloc _ _).block b (Nat.lt_of_lt_of_le hb gab.size)]; exact gab.block b hb (fun e => hx (.inl (by simpa using e)))) ?_
            simp only [Act.put, List.setIfInBounds_toArray, List.set_cons_succ, List.set_cons_zero]
            have gac : Wb (fun b => b = (w.heap.size + 1) ∨ some b = kv.ownBlock) wr wc := (gab.mono fun k hk => .inl (by simpa using hk)).trans (r2.mono fun k hk => .inr hk)
            refine mx_app rfl rfl rfl (by kernel_rfl) r1 (kp_mk gac.size fun b hb hx => gac.block b hb hx) ?_
            simp only [Act.put, List.setIfInBounds_toArray, List.set_cons_succ, List.set_cons_zero]
            refine mx_take 1 rfl ?_
            simp only [List.take_succ_cons, List.take_zero, List.drop_succ_cons, List.drop_zero]
            repeat (go_big_quiet_step (fail))
            refine wpQuiet_nil ?_
            simp only [wpMix]
            obtain ⟨ua, uc, rfl⟩ := r6
            have X1 : Hid (Wb (fun b => b = nb ∨ b = (w.heap.size + 1) ∨ some b = kv.ownBlock) wr (wc.setCell ⟨nb, 1, none⟩ (.slice ua (n.keys.length + 1) uc))) := Hid.mk' ((gac.mono fun k hk => .inr hk).trans (Wb.set _ _ _ _ (.inl rfl)))
            have N1 := Hid.mk' r3
            have hkb : ∀ k, some k = kv.ownBlock → w.heap.size ≤ k ∧ k ≠ (w.heap.size + 1) ∧ k ≠ w.heap.size ∧ k ≠ nb := fun k hk => by
              obtain ⟨h1, _, _, h2⟩ := HN.out.keys.typed k hk.symm
              refine ⟨h1, ?_, ?_, ?_⟩
              · rintro rfl; obtain ⟨_, _, h3⟩ := HC.out.typed; exact absurd (typed_ne h2 h3) (by decide)
              · rintro rfl; exact absurd (typed_ne h2 HZ.out) (by decide)
              · rintro rfl; exact absurd (typed_ne h2 HN.out.at_) (by decide)
            have C1 : Hid (CurIs (Lt w.heap.size) (w.heap.size + 1) (wc.setCell ⟨nb, 1, none⟩ (.slice ua (n.keys.length + 1) uc)) (tkc (on c) (tkc 1 c))) := by
              have hbb : Wb (fun b => some b = kv.ownBlock ∨ b = nb) wb (wc.setCell ⟨nb, 1, none⟩ (.slice ua (n.keys.length + 1) uc)) := (r2.mono fun k hk => .inl hk).trans (Wb.set _ _ _ _ (.inr rfl))
              exact cb'.wb hbb (by have := gab.size; omega) fun k hk => by
                rcases hk with hk | hk
                · have := hkb k hk; exact ⟨this.2.1, this.1⟩
                · omega
            have Z1 : Hid ((wc.setCell ⟨nb, 1, none⟩ (.slice ua (n.keys.length + 1) uc)).heap[w.heap.size]? = some (.cells #[.bool false, .slice none 0 0, .slice none 0 0, .slice none 0 0] 37 (0, 0))) := by
              show _ = _
              rw [X1.out.block _ (by omega) (by rintro (e | e | e) <;> first | omega | exact (hkb _ e).2.2.1 rfl)]; exact HZ.out
            have B1 : Hid (Below w.heap.size w (wc.setCell ⟨nb, 1, none⟩ (.slice ua (n.keys.length + 1) uc))) := HB.out.trans (X1.out.below (by omega) fun k hk => by
              rcases hk with hk | hk | hk
              · omega
              · omega
              · exact (hkb k hk).1)
            obtain ⟨⟨e0, e1, e2, e3⟩, ef⟩ := cells4_get N1.out.at_
            dsimp only at e0
            rw [hlf] at e0
            go_wp2_with fail
            clear e0 e1 e2 e3 ef b0 b1 b2 b3 bf d0 d1 df hrr hng1 ga ca ot gb cb' ga0 gab hNb htl hmle et r1 r2 r3 r4 r5 gac
            generalize wc.setCell ⟨nb, 1, none⟩ (.slice ua (n.keys.length + 1) uc) = w1 at *
            have HNl := HN.out.lt
            have h1s : wr.heap.size ≤ w1.heap.size := X1.out.size
            have hng1 : ¬ (nb = (w.heap.size + 1) ∨ some nb = vv.ownBlock) := by
              rintro (e | e)
              · omega
              · obtain ⟨_, _, _, h1⟩ := N1.out.vals.typed _ e.symm; exact absurd (typed_ne h1 N1.out.at_) (by decide)
            have hrr : ∀ q : Kp (fun b => b = (w.heap.size + 1) ∨ some b = vv.ownBlock) w1, q.nx.cell? ⟨nb, 2, none⟩ = some vv := fun q => q.cell (by have := (cells4_get N1.out.at_).1; exact this.2.2.1) hng1
            refine wp_region_mix 9 (fun w' => ∃ q : Kp (fun b => b = (w.heap.size + 1) ∨ some b = vv.ownBlock) w1, w' = q.nx) (by kernel_rfl) (by kernel_rfl) (kp_first _ w1) ?_
            simp only [List.take_succ_cons, List.take_zero, List.drop_succ_cons, List.drop_zero]
            refine mx_take 4 rfl ?_
            simp only [List.take_succ_cons, List.take_zero, List.drop_succ_cons, List.drop_zero]
            repeat (go_big_quiet_step (fail))
            refine wpQuiet_nil ?_
            refine mx_call (vals := [.pointer (some ⟨(w.heap.size + 1), 0, none⟩)]) Try.func69 (by kernel_rfl) rfl rfl (by kernel_rfl) (by kernel_rfl) (ctwo_any HAc.out (cur_drew C1.out)) (fun e wa ha => ?_)
            obtain ⟨rfl, ga, ca⟩ := ha
            refine ⟨_, rfl, kp_mk ga.size fun b hb hx => ga.block b hb (fun e => hx (.inl (by simpa using e))), ?_⟩
            simp only [Act.put, List.setIfInBounds_toArray, List.set_cons_succ, List.set_cons_zero]
            refine mx_call (vals := [.pointer (some ⟨(w.heap.size + 1), 0, none⟩), .int .i64 (tw (tkc (on c) (tkc 1 c)) : Nat)]) Try.func70 (by kernel_rfl) rfl rfl (by kernel_rfl) (by kernel_rfl) (take_any _ (tw_le _) HAc.out ca) (fun e wb hb' => ?_)
            obtain ⟨vt, rfl, ot, gb, cb'⟩ := hb'
            have ga0 : w1.grownBy wa (some (w.heap.size + 1)) := ⟨ga.os, ga.tape, ga.output, ga.size, ga.block⟩
            have gab := Wb.of_grown (grown_trans ga0 gb)
            refine ⟨_, rfl, kp_mk gab.size fun b hb hx => gab.block b hb (fun e => hx (.inl (by simpa using e))), ?_⟩
            simp only [Act.put, List.setIfInBounds_toArray, List.set_cons_succ, List.set_cons_zero]
            have hNb := N1.out.wb gab fun k hk => by
              obtain rfl : k = (w.heap.size + 1) := by simpa using hk
              obtain ⟨cur, fr, ht⟩ := C1.out.typed
              exact ⟨cur, fr, 111, ht, by decide, by decide, by decide, by decide⟩
            have htl := tk_length (tw (tkc (on c) (tkc 1 c))) (tkc 2 (tkc (on c) (tkc 1 c)))
            have hmle : (tw (tkc (on c) (tkc 1 c)) : Nat) ≤ 65535 := tw_le _
            obtain ⟨at', ct', et, _⟩ := (ot.bs (by rw [htl]; unfold lim; omega)).at
            obtain ⟨un, wc, r1, r2, r3, r4, r5, r6⟩ := nod_val hNb (ot.mono (Nat.zero_le _)) (by rw [htl]; unfold lim; omega) (by have := HL.out.1; have := HL.out.2.1; dsimp only; unfold lim; omega) (by have := hNb.lt; omega)
            refine mx_make (by rfl) (by kernel_rfl) (by simp only [execOp, List.map_toArray, List.map_cons, List.map_nil, go_sem]; exact run_v (lays28 _ _ _ _ _ et)) (kp_mk (Nat.le_trans gab.size (up_alloc _ _).size) fun b hb hx => by rw [(up_alloc _ _).block b (Nat.lt_of_lt_of_le hb gab.size)]; exact gab.block b hb (fun e => hx (.inl (by simpa using e)))) ?_
            simp only [Act.put, List.setIfInBounds_toArray, List.set_cons_succ, List.set_cons_zero]
            have gac : Wb (fun b => b = (w.heap.size + 1) ∨ some b = vv.ownBlock) w1 wc := (gab.mono fun k hk => .inl (by simpa using hk)).trans (r2.mono fun k hk => .inr hk)
            refine mx_app rfl rfl rfl (by kernel_rfl) r1 (kp_mk gac.size fun b hb hx => gac.block b hb hx) ?_
            simp only [Act.put, List.setIfInBounds_toArray, List.set_cons_succ, List.set_cons_zero]
            refine mx_take 1 rfl ?_
            simp only [List.take_succ_cons, List.take_zero, List.drop_succ_cons, List.drop_zero]
            repeat (go_big_quiet_step (fail))
            refine wpQuiet_nil ?_
            simp only [wpMix]
            obtain ⟨ua, uc, rfl⟩ := r6
            have X2 : Hid (Wb (fun b => b = nb ∨ b = (w.heap.size + 1) ∨ some b = vv.ownBlock) w1 (wc.setCell ⟨nb, 2, none⟩ (.slice ua (n.vals.length + 1) uc))) := Hid.mk' ((gac.mono fun k hk => .inr hk).trans (Wb.set _ _ _ _ (.inl rfl)))
            have N2 := Hid.mk' r3
            have hkb2 : ∀ k, some k = vv.ownBlock → w.heap.size ≤ k ∧ k ≠ (w.heap.size + 1) ∧ k ≠ w.heap.size ∧ k ≠ nb := fun k hk => by
              obtain ⟨h1, _, _, h2⟩ := N1.out.vals.typed k hk.symm
              refine ⟨h1, ?_, ?_, ?_⟩
              · rintro rfl; obtain ⟨_, _, h3⟩ := C1.out.typed; exact absurd (typed_ne h2 h3) (by decide)
              · rintro rfl; exact absurd (typed_ne h2 Z1.out) (by decide)
              · rintro rfl; exact absurd (typed_ne h2 N1.out.at_) (by decide)
            have C2 : Hid (CurIs (Lt w.heap.size) (w.heap.size + 1) (wc.setCell ⟨nb, 2, none⟩ (.slice ua (n.vals.length + 1) uc)) (tkc (tw (tkc (on c) (tkc 1 c))) (tkc 2 (tkc (on c) (tkc 1 c))))) := by
              have hbb : Wb (fun b => some b = vv.ownBlock ∨ b = nb) wb (wc.setCell ⟨nb, 2, none⟩ (.slice ua (n.vals.length + 1) uc)) := (r2.mono fun k hk => .inl hk).trans (Wb.set _ _ _ _ (.inr rfl))
              exact cb'.wb hbb (by have := gab.size; omega) fun k hk => by
                rcases hk with hk | hk
                · have := hkb2 k hk; exact ⟨this.2.1, this.1⟩
                · omega
            have Z2 : Hid ((wc.setCell ⟨nb, 2, none⟩ (.slice ua (n.vals.length + 1) uc)).heap[w.heap.size]? = some (.cells #[.bool false, .slice none 0 0, .slice none 0 0, .slice none 0 0] 37 (0, 0))) := by
              show _ = _
              rw [X2.out.block _ (by omega) (by rintro (e | e | e) <;> first | omega | exact (hkb2 _ e).2.2.1 rfl)]; exact Z1.out
            have B2 : Hid (Below w.heap.size w (wc.setCell ⟨nb, 2, none⟩ (.slice ua (n.vals.length + 1) uc))) := B1.out.trans (X2.out.below (by omega) fun k hk => by
              rcases hk with hk | hk | hk
              · omega
              · omega
              · exact (hkb2 k hk).1)
            have HEN : Hid (entN n c = ⟨n.leaf, n.keys ++ [tk (on c) (tkc 1 c)], n.vals ++ [tk (tw (tkc (on c) (tkc 1 c))) (tkc 2 (tkc (on c) (tkc 1 c)))], n.kids⟩ ∧ entC n.leaf c = tkc (tw (tkc (on c) (tkc 1 c))) (tkc 2 (tkc (on c) (tkc 1 c)))) := by unfold entN entC; rw [hlf]; exact ⟨rfl, rfl⟩
            clear hrr hng1 ga ca ot gb cb' ga0 gab hNb htl hmle et r1 r2 r3 gac hkb2 hkb
            go_wp2_with fail
            go_roundw
            case rel => exact ⟨k + 1, entN n c, entC n.leaf c, _, _, _, by go_num, by omega, by rw [entN_leaf]; exact hlf, by rw [HEN.out.1]; exact N2, by rw [HEN.out.2]; exact C2, B2, HST, Hid.mk' (by have := HL.out; rw [HEN.out.1]; refine ⟨by simp; omega, by simp; omega, by simp; omega, this.2.2.2⟩), Z2⟩
            case measure => simp [intOf]; omega
        · have hlt' : ¬ ((k : Int) < (cnt p : Int)) := by omega
          have hdt : decide ((k : Int) < (cnt p : Int)) = false := by simp; omega
          have HRD : Hid (rd p = (n, c)) := by rw [← HR.out]; exact ents_done (by omega)
          cases hbad : c.bad with
          | true =>
            rw [hbad] at d1
            have HBAD := Hid.mk' hbad
            clear hbad
            have HDQ : Hid (dec p = (none0, 3)) := by show _ = _; rw [dec_eq HLEN.out HRD.out, HBAD.out]; rfl
            have HCF := Hid.mk' (c71 HBS.out)
            obtain ⟨⟨z0, z1, z2, z3⟩, zf⟩ := cells4_get HZ.out
            go_wp2_with fail
            refine HCF.out.mono ?_
            rintro e w9 ⟨rfl, rfl⟩
            go_wp2_with fail
            refine bodyPost_ret (v := .tuple #[.agg #[.bool false, .slice none 0 0, .slice none 0 0, .slice none 0 0], .int .i64 3]) (by simp [results, Try.results26, go_sem, z0, z1, z2, z3]) rfl ?_
            refine ⟨_, _, _, by rw [HDQ.out]; rfl, ?_, ?_, ?_, ?_, ?_⟩ <;> try rw [HDQ.out]
            · exact obb_nil
            · exact obb_nil
            · exact World.ownsRow_nil _ _ _ _
            · exact (((HB.out.setCell (p := ⟨w.heap.size, 0, none⟩) (Nat.le_refl _) _).setCell (p := ⟨w.heap.size, 1, none⟩) (Nat.le_refl _) _).setCell (p := ⟨w.heap.size, 2, none⟩) (Nat.le_refl _) _).setCell (p := ⟨w.heap.size, 3, none⟩) (Nat.le_refl _) _
            · simp [none0]
          | false =>
            rw [hbad] at d1
            have HBAD := Hid.mk' hbad
            clear hbad
            have hk2 : (kind p != 1 && kind p != 2) = false := by rw [HKD1.out]; rfl
            have hk1' : ((kind p : Int) != 1) = false := by simp; have := HKD1.out; omega
            cases hany : c.b.any (· != 0) with
            | true =>
              have HDQ : Hid (dec p = (none0, 3)) := by show _ = _; rw [dec_eq HLEN.out HRD.out, hany, Bool.or_true]; rfl
              have HCF := Hid.mk' (c71 HBS.out)
              rw [hany] at HCF
              clear hany
              have hk2 := Hid.mk' hk2
              go_wp2_with fail
              refine HCF.out.mono ?_
              rintro e w9 ⟨rfl, rfl⟩
              obtain ⟨⟨z0, z1, z2, z3⟩, zf⟩ := cells4_get HZ.out
              go_wp2_with fail
              refine bodyPost_ret (v := .tuple #[.agg #[.bool false, .slice none 0 0, .slice none 0 0, .slice none 0 0], .int .i64 3]) (by simp [results, Try.results26, go_sem, z0, z1, z2, z3]) rfl ?_
              refine ⟨_, _, _, by rw [HDQ.out]; rfl, ?_, ?_, ?_, ?_, ?_⟩ <;> try rw [HDQ.out]
              · exact obb_nil
              · exact obb_nil
              · exact World.ownsRow_nil _ _ _ _
              · exact (((HB.out.setCell (p := ⟨w.heap.size, 0, none⟩) (Nat.le_refl _) _).setCell (p := ⟨w.heap.size, 1, none⟩) (Nat.le_refl _) _).setCell (p := ⟨w.heap.size, 2, none⟩) (Nat.le_refl _) _).setCell (p := ⟨w.heap.size, 3, none⟩) (Nat.le_refl _) _
              · simp [none0]
            | false =>
              have HCF := Hid.mk' (c71 HBS.out)
              rw [hany] at HCF
              have HQ : Hid (dec p = if check n != 0 then (none0, 3) else (n, 0)) := by show _ = _; rw [dec_eq HLEN.out HRD.out, hany, HBAD.out, hk2]; simp only [Bool.false_or]
              clear hany
              have hk2 := Hid.mk' hk2
              have HCH := Hid.mk' (check_any (HN.out.rn (by have := HL.out.1; unfold lim; omega) (by have := HL.out.2.1; unfold lim; omega) (by have := HL.out.2.2.1; unfold lim; omega) (fun x hx => by have := HL.out.2.2.2 x hx; omega)))
              rw [hlf] at HCH
              go_wp2_with fail
              refine HCF.out.mono ?_
              rintro e w9 ⟨rfl, rfl⟩
              go_wp2_with fail
              refine HCH.out.mono ?_
              rintro e w10 ⟨rfl, h10⟩
              have H10 := Hid.mk' h10
              have HZ10 : Hid (w10.heap[w.heap.size]? = some (.cells #[.bool false, .slice none 0 0, .slice none 0 0, .slice none 0 0] 37 (0, 0))) := by show _ = _; rw [h10.block _ (by omega)]; exact HZ.out
              obtain ⟨⟨z0, z1, z2, z3⟩, zf⟩ := cells4_get HZ10.out
              have b0' := cell_later h10 b0
              have b1' := cell_later h10 b1
              have b2' := cell_later h10 b2
              have b3' := cell_later h10 b3
              have HB10 := Hid.mk' (HB.out.trans (h10.mono (by omega)))
              clear h10
              by_cases hch : check n = 0
              · have hch' : (check n != 0) = false := by simp [hch]
                have HDQ : Hid (dec p = (n, 0)) := by show _ = _; rw [HQ.out, hch']; rfl
                clear hch
                obtain ⟨kva, kvc, ekv⟩ := (let ⟨_, h, _⟩ := HN.out.keys; own_slice h)
                obtain ⟨vva, vvc, evv⟩ := (let ⟨_, h, _⟩ := HN.out.vals; own_slice h)
                obtain ⟨cva, cvc, ecv⟩ := own_slice HN.out.kids
                subst ekv; subst evv; subst ecv
                go_wp2_with fail
                refine bodyPost_ret (v := .tuple #[.agg #[.bool true, .slice kva n.keys.length kvc, .slice vva n.vals.length vvc, .slice cva n.kids.length cvc], .int .i64 0]) (by simp [results, Try.results26, go_sem, z0, z1, z2, z3]) rfl ?_
                have hset : Wb (fun k => k = w.heap.size) w10 ((((w10.setCell ⟨w.heap.size, 0, none⟩ (.bool true)).setCell ⟨w.heap.size, 1, none⟩ (.slice kva n.keys.length kvc)).setCell ⟨w.heap.size, 2, none⟩ (.slice vva n.vals.length vvc)).setCell ⟨w.heap.size, 3, none⟩ (.slice cva n.kids.length cvc)) :=
                  (((Wb.set (X := fun k => k = w.heap.size) _ _ _ _ rfl).trans (Wb.set (X := fun k => k = w.heap.size) _ _ _ _ rfl)).trans (Wb.set (X := fun k => k = w.heap.size) _ _ _ _ rfl)).trans (Wb.set (X := fun k => k = w.heap.size) _ _ _ _ rfl)
                have hob : ∀ {v : Value} {ls : List (List UInt8)}, Obb 0 w.heap.size wr v ls → Obb 0 w.heap.size ((((w10.setCell ⟨w.heap.size, 0, none⟩ (.bool true)).setCell ⟨w.heap.size, 1, none⟩ (.slice kva n.keys.length kvc)).setCell ⟨w.heap.size, 2, none⟩ (.slice vva n.vals.length vvc)).setCell ⟨w.heap.size, 3, none⟩ (.slice cva n.kids.length cvc)) v ls := fun ho => (ho.up H10.out).wb hset fun k hk => by
                  subst hk
                  exact ⟨fun e => by obtain ⟨_, _, _, h1⟩ := (ho.up H10.out).typed _ e.symm; exact absurd (typed_ne h1 HZ10.out) (by decide), fun cur fr h1 => absurd (typed_ne h1 HZ10.out) (by decide)⟩
                refine ⟨.slice kva n.keys.length kvc, .slice vva n.vals.length vvc, .slice cva n.kids.length cvc, by rw [HDQ.out, HLF.out], ?_, ?_, ?_, ?_, ?_⟩ <;> try rw [HDQ.out]
                · exact hob HN.out.keys
                · exact hob HN.out.vals
                · exact own_wb (own_keep HN.out.kids H10.out (Nat.le_refl _)) hset fun k hk e => by
                    subst hk
                    obtain ⟨_, _, _, h1⟩ := own_typed (own_keep HN.out.kids H10.out (Nat.le_refl _)) _ e.symm
                    exact absurd (typed_ne h1 HZ10.out) (by decide)
                · exact HB10.out.trans (hset.below (Nat.le_trans (Nat.le_of_lt (by omega)) H10.out.size) (fun k hk => by subst hk; exact Nat.le_refl _))
                · have := HL.out
                  dsimp only
                  exact ⟨by omega, by omega, by omega, this.2.2.2⟩
              · have hch' : (check n != 0) = true := by simp [hch]
                have HDQ : Hid (dec p = (none0, 3)) := by show _ = _; rw [HQ.out, hch']; rfl
                clear hch
                go_wp2_with fail
                refine bodyPost_ret (v := .tuple #[.agg #[.bool false, .slice none 0 0, .slice none 0 0, .slice none 0 0], .int .i64 3]) (by simp [results, Try.results26, go_sem, z0, z1, z2, z3]) rfl ?_
                refine ⟨_, _, _, by rw [HDQ.out]; rfl, ?_, ?_, ?_, ?_, ?_⟩ <;> try rw [HDQ.out]
                · exact obb_nil
                · exact obb_nil
                · exact World.ownsRow_nil _ _ _ _
                · exact (((HB10.out.setCell (p := ⟨w.heap.size, 0, none⟩) (Nat.le_refl _) _).setCell (p := ⟨w.heap.size, 1, none⟩) (Nat.le_refl _) _).setCell (p := ⟨w.heap.size, 2, none⟩) (Nat.le_refl _) _).setCell (p := ⟨w.heap.size, 3, none⟩) (Nat.le_refl _) _
                · simp [none0]
    · have HKD1 := Hid.mk' hkd
      have hk1 : ((kind p : Int) == 1) = false := by simp; omega
      clear hkd
      have hnb : w.heap.size + 2 ≤ w3.heap.size := by have := W3.out.size; have := HS2.out; omega
      obtain ⟨W4, hW4⟩ : ∃ W4, W4 = w3.alloc (.cells #[.bool false, .slice none 0 0, .slice none 0 0, .slice none 0 0] 37) := ⟨_, rfl⟩
      have hb4 : Below w3.heap.size w3 W4 := by rw [hW4]; exact up_alloc _ _
      have hat4 : W4.heap[w3.heap.size]? = some (.cells #[.bool false, .slice none 0 0, .slice none 0 0, .slice none 0 0] 37 (0, 0)) := by rw [hW4]; exact heap_alloc_new w3 _
      have N4 : Hid (Nod w.heap.size w3.heap.size W4 ⟨false, [], [], []⟩ (.slice none 0 0) (.slice none 0 0) (.slice none 0 0)) := ⟨hat4, obb_nil, obb_nil, World.ownsRow_nil _ _ _ _, fun k hk => by cases hk⟩
      have C4 := C3.out.wb (Wb.of_below (fun k => w3.heap.size ≤ k) hb4) (by omega) (fun k hk => by have : w3.heap.size ≤ k := hk; omega)
      have Z4 : W4.heap[w.heap.size]? = some (.cells #[.bool false, .slice none 0 0, .slice none 0 0, .slice none 0 0] 37 (0, 0)) := by
        rw [hb4.block _ (by omega), W3.out.block _ (by have := HS2.out; omega) (by simp)]; exact HZ2.out
      have B4 : Below w.heap.size w W4 := (HB2.out.trans (W3.out.below (by have := HS2.out; omega) (fun k hk => by simp at hk; omega))).trans (hb4.mono (by omega))
      have HTWO := Hid.mk' (ctwo_any HA.out C4)
      have C4 := Hid.mk' C4
      have Z4 := Hid.mk' Z4
      have B4 := Hid.mk' B4
      have HS4 : Hid (w3.heap.size < W4.heap.size) := Hid.mk' N4.out.lt
      go_wp2_with fail
      rw [← hW4]
      clear hW4 hb4 hat4
      refine HTWO.out.mono ?_
      rintro e w5 ⟨rfl, h5, cc5⟩
      have W5 := Hid.mk' (Wb.of_grown h5)
      have C5 : Hid (CurIs (Lt w.heap.size) (w.heap.size + 1) w5 (c2 p)) := cc5
      have HCN : Hid (cnt p = tw (c1 p)) := rfl
      rw [← HCN.out]
      have hcn : cnt p ≤ 65535 := by rw [HCN.out]; exact tw_le _
      have N5 : Hid (Nod w.heap.size w3.heap.size w5 ⟨false, [], [], []⟩ (.slice none 0 0) (.slice none 0 0) (.slice none 0 0)) := N4.out.wb W5.out fun k hk => by
        obtain rfl : k = w.heap.size + 1 := by simpa using hk
        obtain ⟨cur, fr, ht⟩ := C4.out.typed
        exact ⟨cur, fr, 111, ht, by decide, by decide, by decide, by decide⟩
      have Z5 : Hid (w5.heap[w.heap.size]? = some (.cells #[.bool false, .slice none 0 0, .slice none 0 0, .slice none 0 0] 37 (0, 0))) := by
        show _ = _
        rw [W5.out.block _ (by have := HS4.out; omega) (by simp)]; exact Z4.out
      have B5 := Hid.mk' (B4.out.trans (W5.out.below (by have := HS4.out; omega) (fun k hk => by simp at hk; omega)))
      clear h5 cc5
      obtain ⟨⟨b0, b1, b2, b3⟩, bf⟩ := cells4_get N5.out.at_
      have bf := bf 3
      generalize hNB : w3.heap.size = nb at *
      have hnb2 : w.heap.size + 2 ≤ nb := hnb
      clear hNB
      have HTW2 := Hid.mk' (ctwo_any (w := w5) (fun i hi => by have : i < w.heap.size := hi; omega) C5.out)
      have hk0 := tw_le (c2 p)
      go_wp2_with fail
      refine HTW2.out.mono ?_
      rintro e w6 ⟨rfl, h6, cc6⟩
      have W6 := Hid.mk' (Wb.of_grown h6)
      have C6 := Hid.mk' cc6
      have N6 : Hid (Nod w.heap.size nb w6 ⟨false, [], [], []⟩ (.slice none 0 0) (.slice none 0 0) (.slice none 0 0)) := N5.out.wb W6.out fun k hk => by
        obtain rfl : k = (w.heap.size + 1) := by simpa using hk
        obtain ⟨cur, fr, ht⟩ := C5.out.typed
        exact ⟨cur, fr, 111, ht, by decide, by decide, by decide, by decide⟩
      have Z6 : Hid (w6.heap[w.heap.size]? = some (.cells #[.bool false, .slice none 0 0, .slice none 0 0, .slice none 0 0] 37 (0, 0))) := by
        show _ = _
        rw [W6.out.block _ (by have := N5.out.lt; omega) (by simp <;> omega)]; exact Z5.out
      have B6 := Hid.mk' (B5.out.trans (W6.out.below (by have := N5.out.lt; omega) (fun k hk => by simp at hk; omega)))
      clear h6 cc6 b0 b1 b2 b3 bf
      have hbk := up_alloc w6 (.cells #[.int .i64 (tw (c2 p) : Int)] 3)
      have hat7 : (w6.alloc (.cells #[.int .i64 (tw (c2 p) : Int)] 3)).heap[nb]? = some (.cells #[.bool false, .slice none 0 0, .slice none 0 0, .slice none 0 0] 37 (0, 0)) := by
        rw [hbk.block nb N6.out.lt]; exact N6.out.at_
      obtain ⟨⟨b0, b1, b2, b3⟩, bf⟩ := cells4_get hat7
      have bf := bf 3
      have hlt6 := N6.out.lt
      have hs7 := cells4_set (o := 3) (u := .slice (some ⟨w6.heap.size, 0, none⟩) 1 1) N6.out.at_
      have hz7 := size_setCell w6 ⟨nb, 3, none⟩ (.slice (some ⟨w6.heap.size, 0, none⟩) 1 1)
      have N7 : Hid (Nod w.heap.size nb ((w6.setCell ⟨nb, 3, none⟩ (.slice (some ⟨w6.heap.size, 0, none⟩) 1 1)).alloc (.cells #[.int .i64 (tw (c2 p) : Int)] 3)) ⟨false, [], [], [(tw (c2 p) : Int)]⟩ (.slice none 0 0) (.slice none 0 0) (.slice (some ⟨w6.heap.size, 0, none⟩) 1 1)) := by
        refine ⟨by rw [Below.heap_alloc _ _ _ (by omega), hs7]; rfl, obb_nil, obb_nil, ⟨by simp, .inr ⟨w6.heap.size, 1, #[.int .i64 (tw (c2 p) : Int)], rfl, by omega, ?_, Nat.le_refl _, by decide, rfl, by simp [iv]⟩⟩, fun k hk => by cases hk⟩
        have := heap_alloc_new (w6.setCell ⟨nb, 3, none⟩ (.slice (some ⟨w6.heap.size, 0, none⟩) 1 1)) (.cells #[.int .i64 (tw (c2 p) : Int)] 3)
        rw [hz7] at this; exact this
      have X7 : Hid (Wb (fun k => k = nb) w6 ((w6.setCell ⟨nb, 3, none⟩ (.slice (some ⟨w6.heap.size, 0, none⟩) 1 1)).alloc (.cells #[.int .i64 (tw (c2 p) : Int)] 3))) := (Wb.set (X := fun k => k = nb) _ _ _ _ rfl).trans (Wb.of_below _ (up_alloc _ _))
      clear hat7 hbk hs7 hz7
      have HR0 : Hid (ents (cnt p - 0) ⟨false, [], [], [(tw (c2 p) : Int)]⟩ (tkc 2 (c2 p)) = rd p) := by
        show _ = _
        rw [rd_eq]; unfold n0 c3; rw [if_neg HKD1.out, if_neg HKD1.out]; rfl
      go_wp2_with fail
      clear b0 b1 b2 b3 bf hlt6
      generalize (w6.setCell ⟨nb, 3, none⟩ (.slice (some ⟨w6.heap.size, 0, none⟩) 1 1)).alloc (.cells #[.int .i64 (tw (c2 p) : Int)] 3) = w7 at *
      have C7 := Hid.mk' (C6.out.wb X7.out (by have := N6.out.lt; omega) (fun k hk => by subst hk; omega))
      have Z7 : Hid (w7.heap[w.heap.size]? = some (.cells #[.bool false, .slice none 0 0, .slice none 0 0, .slice none 0 0] 37 (0, 0))) := by
        show _ = _
        rw [X7.out.block _ (by have := N6.out.lt; omega) (by omega)]; exact Z6.out
      have B7 := Hid.mk' (B6.out.trans (X7.out.below (by have := N6.out.lt; omega) (fun k hk => by subst hk; omega)))
      go_loopw [8] (fun i wr => ∃ (k : Nat) (n : Nd) (c : Cu) (kv vv cv : Value), i = .int .i64 k ∧ k ≤ cnt p ∧ n.leaf = false ∧ Hid (Nod w.heap.size nb wr n kv vv cv) ∧ Hid (CurIs (Lt w.heap.size) (w.heap.size + 1) wr c) ∧ Hid (Below w.heap.size w wr) ∧ Hid (ents (cnt p - k) n c = rd p) ∧ Hid (n.keys.length ≤ k ∧ n.vals.length ≤ k ∧ n.kids.length ≤ k + 1 ∧ ∀ x ∈ n.kids, 0 ≤ x ∧ x ≤ 65535) ∧ Hid (wr.heap[w.heap.size]? = some (.cells #[.bool false, .slice none 0 0, .slice none 0 0, .slice none 0 0] 37 (0, 0)))) (fun i _ => cnt p - (intOf i).toNat)
      case atStart => exact ⟨0, _, _, _, _, _, rfl, by omega, rfl, N7, C7, B7, HR0, Hid.mk' (by simp; omega), Z7⟩
      case round =>
        obtain ⟨k, n, c, kv, vv, cv, rfl, hk, hlf, HN, HC, HB, HR, HL, HZ⟩ := hrel
        obtain ⟨vb, hvb, hbs⟩ := HC.out
        obtain ⟨ab, cbp, rfl, _⟩ := hbs.at
        obtain ⟨d0, d1, df⟩ := cells2_get hvb
        obtain ⟨⟨b0, b1, b2, b3⟩, bf⟩ := cells4_get HN.out.at_
        rw [hlf] at b0
        have hlr := HN.out.lt
        have HBS := Hid.mk' hbs
        have HLF := Hid.mk' hlf
        clear hvb hbs
        by_cases hlt : k < cnt p
        · have hlt' : ((k : Int) < (cnt p : Int)) := by omega
          have hdt : decide ((k : Int) < (cnt p : Int)) = true := by simp; omega
          cases hbad : c.bad with
          | true =>
            rw [hbad] at d1
            have HRD : Hid (rd p = (n, c)) := by rw [← HR.out]; exact ents_bad _ _ _ hbad
            have HBAD := Hid.mk' hbad
            clear hbad
            have HDQ : Hid (dec p = (none0, 3)) := by show _ = _; rw [dec_eq HLEN.out HRD.out, HBAD.out]; rfl
            have HCF := Hid.mk' (c71 HBS.out)
            obtain ⟨⟨z0, z1, z2, z3⟩, zf⟩ := cells4_get HZ.out
            go_wp2_with fail
            refine HCF.out.mono ?_
            rintro e w9 ⟨rfl, rfl⟩
            go_wp2_with fail
            refine bodyPost_ret (v := .tuple #[.agg #[.bool false, .slice none 0 0, .slice none 0 0, .slice none 0 0], .int .i64 3]) (by simp [results, Try.results26, go_sem, z0, z1, z2, z3]) rfl ?_
            refine ⟨_, _, _, by rw [HDQ.out]; rfl, ?_, ?_, ?_, ?_, ?_⟩ <;> try rw [HDQ.out]
            · exact obb_nil
            · exact obb_nil
            · exact World.ownsRow_nil _ _ _ _
            · exact (((HB.out.setCell (p := ⟨w.heap.size, 0, none⟩) (Nat.le_refl _) _).setCell (p := ⟨w.heap.size, 1, none⟩) (Nat.le_refl _) _).setCell (p := ⟨w.heap.size, 2, none⟩) (Nat.le_refl _) _).setCell (p := ⟨w.heap.size, 3, none⟩) (Nat.le_refl _) _
            · simp [none0]
          | false =>
            rw [hbad] at d1
            have HST : Hid (ents (cnt p - (k + 1)) (entN n c) (entC n.leaf c) = rd p) := by rw [← HR.out]; exact (ents_step hlt hbad).symm
            clear hbad
            have HAc : Hid (∀ i, Lt w.heap.size i → i < (w.heap.size + 1)) := fun i hi => by have : i < w.heap.size := hi; omega
            have hng1 : ¬ (nb = (w.heap.size + 1) ∨ some nb = kv.ownBlock) := by
              rintro (e | e)
              · omega
              · obtain ⟨_, _, _, h1⟩ := HN.out.keys.typed _ e.symm; exact absurd (typed_ne h1 HN.out.at_) (by decide)
            have hrr : ∀ q : Kp (fun b => b = (w.heap.size + 1) ∨ some b = kv.ownBlock) wr, q.nx.cell? ⟨nb, 1, none⟩ = some kv := fun q => q.cell (by have := (cells4_get HN.out.at_).1; exact this.2.1) hng1
            go_wp2_with fail
            refine wp_region_mix 9 (fun w' => ∃ q : Kp (fun b => b = (w.heap.size + 1) ∨ some b = kv.ownBlock) wr, w' = q.nx) (by kernel_rfl) (by kernel_rfl) (kp_first _ wr) ?_
            simp only [List.take_succ_cons, List.take_zero, List.drop_succ_cons, List.drop_zero]
            refine mx_take 4 rfl ?_
            simp only [List.take_succ_cons, List.take_zero, List.drop_succ_cons, List.drop_zero]
            repeat (go_big_quiet_step (fail))
            refine wpQuiet_nil ?_
            refine mx_call (vals := [.pointer (some ⟨(w.heap.size + 1), 0, none⟩)]) Try.func68 (by kernel_rfl) rfl rfl (by kernel_rfl) (by kernel_rfl) (one_any HAc.out (cur_drew HC.out)) (fun e wa ha => ?_)
            obtain ⟨rfl, ga, ca⟩ := ha
            refine ⟨_, rfl, kp_mk ga.size fun b hb hx => ga.block b hb (fun e => hx (.inl (by simpa using e))), ?_⟩
            simp only [Act.put, List.setIfInBounds_toArray, List.set_cons_succ, List.set_cons_zero]
            refine mx_call (vals := [.pointer (some ⟨(w.heap.size + 1), 0, none⟩), .int .i64 (on c : Nat)]) Try.func70 (by kernel_rfl) rfl rfl (by kernel_rfl) (by kernel_rfl) (take_any _ (Nat.le_trans (on_le c) (by decide)) HAc.out ca) (fun e wb hb' => ?_)
            obtain ⟨vt, rfl, ot, gb, cb'⟩ := hb'
            have ga0 : wr.grownBy wa (some (w.heap.size + 1)) := ⟨ga.os, ga.tape, ga.output, ga.size, ga.block⟩
            have gab := Wb.of_grown (grown_trans ga0 gb)
            refine ⟨_, rfl, kp_mk gab.size fun b hb hx => gab.block b hb (fun e => hx (.inl (by simpa using e))), ?_⟩
            simp only [Act.put, List.setIfInBounds_toArray, List.set_cons_succ, List.set_cons_zero]
            have hNb := HN.out.wb gab fun k hk => by
              obtain rfl : k = (w.heap.size + 1) := by simpa using hk
              obtain ⟨cur, fr, ht⟩ := HC.out.typed
              exact ⟨cur, fr, 111, ht, by decide, by decide, by decide, by decide⟩
            have htl := tk_length (on c) (tkc 1 c)
            have hmle : (on c : Nat) ≤ 65535 := Nat.le_trans (on_le c) (by decide)
            obtain ⟨at', ct', et, _⟩ := (ot.bs (by rw [htl]; unfold lim; omega)).at
            obtain ⟨un, wc, r1, r2, r3, r4, r5, r6⟩ := nod_key hNb (ot.mono (Nat.zero_le _)) (by rw [htl]; unfold lim; omega) (by have := HL.out.1; have := HL.out.2.1; unfold lim; omega) (by have := hNb.lt; omega)
            refine mx_make (by rfl) (by kernel_rfl) (by simp only [execOp, List.map_toArray, List.map_cons, List.map_nil, go_sem]; exact run_v (lays28 _ _ _ _ _ et)) (kp_mk (Nat.le_trans gab.size (up_alloc _ _).size) fun b hb hx => by rw [(up_alloc _ _).block b (Nat.lt_of_lt_of_le hb gab.size)]; exact gab.block b hb (fun e => hx (.inl (by simpa using e)))) ?_
            simp only [Act.put, List.setIfInBounds_toArray, List.set_cons_succ, List.set_cons_zero]
            have gac : Wb (fun b => b = (w.heap.size + 1) ∨ some b = kv.ownBlock) wr wc := (gab.mono fun k hk => .inl (by simpa using hk)).trans (r2.mono fun k hk => .inr hk)
            refine mx_app rfl rfl rfl (by kernel_rfl) r1 (kp_mk gac.size fun b hb hx => gac.block b hb hx) ?_
            simp only [Act.put, List.setIfInBounds_toArray, List.set_cons_succ, List.set_cons_zero]
            refine mx_take 1 rfl ?_
            simp only [List.take_succ_cons, List.take_zero, List.drop_succ_cons, List.drop_zero]
            repeat (go_big_quiet_step (fail))
            refine wpQuiet_nil ?_
            simp only [wpMix]
            obtain ⟨ua, uc, rfl⟩ := r6
            have X1 : Hid (Wb (fun b => b = nb ∨ b = (w.heap.size + 1) ∨ some b = kv.ownBlock) wr (wc.setCell ⟨nb, 1, none⟩ (.slice ua (n.keys.length + 1) uc))) := Hid.mk' ((gac.mono fun k hk => .inr hk).trans (Wb.set _ _ _ _ (.inl rfl)))
            have N1 := Hid.mk' r3
            have hkb : ∀ k, some k = kv.ownBlock → w.heap.size ≤ k ∧ k ≠ (w.heap.size + 1) ∧ k ≠ w.heap.size ∧ k ≠ nb := fun k hk => by
              obtain ⟨h1, _, _, h2⟩ := HN.out.keys.typed k hk.symm
              refine ⟨h1, ?_, ?_, ?_⟩
              · rintro rfl; obtain ⟨_, _, h3⟩ := HC.out.typed; exact absurd (typed_ne h2 h3) (by decide)
              · rintro rfl; exact absurd (typed_ne h2 HZ.out) (by decide)
              · rintro rfl; exact absurd (typed_ne h2 HN.out.at_) (by decide)
            have C1 : Hid (CurIs (Lt w.heap.size) (w.heap.size + 1) (wc.setCell ⟨nb, 1, none⟩ (.slice ua (n.keys.length + 1) uc)) (tkc (on c) (tkc 1 c))) := by
              have hbb : Wb (fun b => some b = kv.ownBlock ∨ b = nb) wb (wc.setCell ⟨nb, 1, none⟩ (.slice ua (n.keys.length + 1) uc)) := (r2.mono fun k hk => .inl hk).trans (Wb.set _ _ _ _ (.inr rfl))
              exact cb'.wb hbb (by have := gab.size; omega) fun k hk => by
                rcases hk with hk | hk
                · have := hkb k hk; exact ⟨this.2.1, this.1⟩
                · omega
            have Z1 : Hid ((wc.setCell ⟨nb, 1, none⟩ (.slice ua (n.keys.length + 1) uc)).heap[w.heap.size]? = some (.cells #[.bool false, .slice none 0 0, .slice none 0 0, .slice none 0 0] 37 (0, 0))) := by
              show _ = _
              rw [X1.out.block _ (by omega) (by rintro (e | e | e) <;> first | omega | exact (hkb _ e).2.2.1 rfl)]; exact HZ.out
            have B1 : Hid (Below w.heap.size w (wc.setCell ⟨nb, 1, none⟩ (.slice ua (n.keys.length + 1) uc))) := HB.out.trans (X1.out.below (by omega) fun k hk => by
              rcases hk with hk | hk | hk
              · omega
              · omega
              · exact (hkb k hk).1)
            obtain ⟨⟨e0, e1, e2, e3⟩, ef⟩ := cells4_get N1.out.at_
            dsimp only at e0
            rw [hlf] at e0
            go_wp2_with fail
            clear e0 e1 e2 e3 ef b0 b1 b2 b3 bf d0 d1 df hrr hng1 ga ca ot gb cb' ga0 gab hNb htl hmle et r1 r2 r3 r4 r5 gac
            generalize wc.setCell ⟨nb, 1, none⟩ (.slice ua (n.keys.length + 1) uc) = w1 at *
            have HNl := HN.out.lt
            have h1s : wr.heap.size ≤ w1.heap.size := X1.out.size
            have hng1 : ¬ (nb = (w.heap.size + 1) ∨ some nb = cv.ownBlock) := by
              rintro (e | e)
              · omega
              · obtain ⟨_, _, _, h1⟩ := own_typed N1.out.kids _ e.symm; exact absurd (typed_ne h1 N1.out.at_) (by decide)
            have hrr : ∀ q : Kp (fun b => b = (w.heap.size + 1) ∨ some b = cv.ownBlock) w1, q.nx.cell? ⟨nb, 3, none⟩ = some cv := fun q => q.cell (by have := (cells4_get N1.out.at_).1; exact this.2.2.2) hng1
            refine wp_region_mix 7 (fun w' => ∃ q : Kp (fun b => b = (w.heap.size + 1) ∨ some b = cv.ownBlock) w1, w' = q.nx) (by kernel_rfl) (by kernel_rfl) (kp_first _ w1) ?_
            simp only [List.take_succ_cons, List.take_zero, List.drop_succ_cons, List.drop_zero]
            refine mx_take 3 rfl ?_
            simp only [List.take_succ_cons, List.take_zero, List.drop_succ_cons, List.drop_zero]
            repeat (go_big_quiet_step (fail))
            refine wpQuiet_nil ?_
            refine mx_call (vals := [.pointer (some ⟨(w.heap.size + 1), 0, none⟩)]) Try.func69 (by kernel_rfl) rfl rfl (by kernel_rfl) (by kernel_rfl) (ctwo_any HAc.out (cur_drew C1.out)) (fun e wa ha => ?_)
            obtain ⟨rfl, ga, ca⟩ := ha
            refine ⟨_, rfl, kp_mk ga.size fun b hb hx => ga.block b hb (fun e => hx (.inl (by simpa using e))), ?_⟩
            simp only [Act.put, List.setIfInBounds_toArray, List.set_cons_succ, List.set_cons_zero]
            have ga0 : w1.grownBy wa (some (w.heap.size + 1)) := ⟨ga.os, ga.tape, ga.output, ga.size, ga.block⟩
            have gab := Wb.of_grown ga0
            have hNb := N1.out.wb gab fun k hk => by
              obtain rfl : k = (w.heap.size + 1) := by simpa using hk
              obtain ⟨cur, fr, ht⟩ := C1.out.typed
              exact ⟨cur, fr, 111, ht, by decide, by decide, by decide, by decide⟩
            obtain ⟨un, wc, r1, r2, r3, r4, r5, r6⟩ := nod_kid (tw (tkc (on c) (tkc 1 c))) hNb (by have := HL.out.2.2.1; dsimp only; unfold lim; omega) (by have := hNb.lt; omega)
            refine mx_make (by rfl) (by kernel_rfl) (by simp only [execOp, List.map_toArray, List.map_cons, List.map_nil, go_sem]; exact run_v (lays291 _ _)) (kp_mk (Nat.le_trans gab.size (up_alloc _ _).size) fun b hb hx => by rw [(up_alloc _ _).block b (Nat.lt_of_lt_of_le hb gab.size)]; exact gab.block b hb (fun e => hx (.inl (by simpa using e)))) ?_
            simp only [Act.put, List.setIfInBounds_toArray, List.set_cons_succ, List.set_cons_zero]
            have gac : Wb (fun b => b = (w.heap.size + 1) ∨ some b = cv.ownBlock) w1 wc := (gab.mono fun k hk => .inl (by simpa using hk)).trans (r2.mono fun k hk => .inr hk)
            refine mx_app rfl rfl rfl (by kernel_rfl) r1 (kp_mk gac.size fun b hb hx => gac.block b hb hx) ?_
            simp only [Act.put, List.setIfInBounds_toArray, List.set_cons_succ, List.set_cons_zero]
            refine mx_take 1 rfl ?_
            simp only [List.take_succ_cons, List.take_zero, List.drop_succ_cons, List.drop_zero]
            repeat (go_big_quiet_step (fail))
            refine wpQuiet_nil ?_
            simp only [wpMix]
            obtain ⟨ua, uc, rfl⟩ := r6
            have X2 : Hid (Wb (fun b => b = nb ∨ b = (w.heap.size + 1) ∨ some b = cv.ownBlock) w1 (wc.setCell ⟨nb, 3, none⟩ (.slice ua (n.kids.length + 1) uc))) := Hid.mk' ((gac.mono fun k hk => .inr hk).trans (Wb.set _ _ _ _ (.inl rfl)))
            have N2 := Hid.mk' r3
            have hkb2 : ∀ k, some k = cv.ownBlock → w.heap.size ≤ k ∧ k ≠ (w.heap.size + 1) ∧ k ≠ w.heap.size ∧ k ≠ nb := fun k hk => by
              obtain ⟨h1, _, _, h2⟩ := own_typed N1.out.kids k hk.symm
              refine ⟨h1, ?_, ?_, ?_⟩
              · rintro rfl; obtain ⟨_, _, h3⟩ := C1.out.typed; exact absurd (typed_ne h2 h3) (by decide)
              · rintro rfl; exact absurd (typed_ne h2 Z1.out) (by decide)
              · rintro rfl; exact absurd (typed_ne h2 N1.out.at_) (by decide)
            have C2 : Hid (CurIs (Lt w.heap.size) (w.heap.size + 1) (wc.setCell ⟨nb, 3, none⟩ (.slice ua (n.kids.length + 1) uc)) (tkc 2 (tkc (on c) (tkc 1 c)))) := by
              have hbb : Wb (fun b => some b = cv.ownBlock ∨ b = nb) wa (wc.setCell ⟨nb, 3, none⟩ (.slice ua (n.kids.length + 1) uc)) := (r2.mono fun k hk => .inl hk).trans (Wb.set _ _ _ _ (.inr rfl))
              exact ca.wb hbb (by have := gab.size; omega) fun k hk => by
                rcases hk with hk | hk
                · have := hkb2 k hk; exact ⟨this.2.1, this.1⟩
                · omega
            have Z2 : Hid ((wc.setCell ⟨nb, 3, none⟩ (.slice ua (n.kids.length + 1) uc)).heap[w.heap.size]? = some (.cells #[.bool false, .slice none 0 0, .slice none 0 0, .slice none 0 0] 37 (0, 0))) := by
              show _ = _
              rw [X2.out.block _ (by omega) (by rintro (e | e | e) <;> first | omega | exact (hkb2 _ e).2.2.1 rfl)]; exact Z1.out
            have B2 : Hid (Below w.heap.size w (wc.setCell ⟨nb, 3, none⟩ (.slice ua (n.kids.length + 1) uc))) := B1.out.trans (X2.out.below (by omega) fun k hk => by
              rcases hk with hk | hk | hk
              · omega
              · omega
              · exact (hkb2 k hk).1)
            have HEN : Hid (entN n c = ⟨n.leaf, n.keys ++ [tk (on c) (tkc 1 c)], n.vals, n.kids ++ [(tw (tkc (on c) (tkc 1 c)) : Int)]⟩ ∧ entC n.leaf c = tkc 2 (tkc (on c) (tkc 1 c))) := by unfold entN entC; rw [hlf]; exact ⟨rfl, rfl⟩
            have htwl := tw_le (tkc (on c) (tkc 1 c))
            clear hrr hng1 ga ca ga0 gab hNb r1 r2 r3 gac hkb2 hkb
            go_wp2_with fail
            go_roundw
            case rel => exact ⟨k + 1, entN n c, entC n.leaf c, _, _, _, by go_num, by omega, by rw [entN_leaf]; exact hlf, by rw [HEN.out.1]; exact N2, by rw [HEN.out.2]; exact C2, B2, HST, Hid.mk' (by have := HL.out; rw [HEN.out.1]; refine ⟨by simp; omega, by simp; omega, by simp; omega, fun x hx => ?_⟩; rcases List.mem_append.1 hx with hx | hx <;> first | exact this.2.2.2 x hx | (simp at hx; omega)), Z2⟩
            case measure => simp [intOf]; omega
        · have hlt' : ¬ ((k : Int) < (cnt p : Int)) := by omega
          have hdt : decide ((k : Int) < (cnt p : Int)) = false := by simp; omega
          have HRD : Hid (rd p = (n, c)) := by rw [← HR.out]; exact ents_done (by omega)
          cases hbad : c.bad with
          | true =>
            rw [hbad] at d1
            have HBAD := Hid.mk' hbad
            clear hbad
            have HDQ : Hid (dec p = (none0, 3)) := by show _ = _; rw [dec_eq HLEN.out HRD.out, HBAD.out]; rfl
            have HCF := Hid.mk' (c71 HBS.out)
            obtain ⟨⟨z0, z1, z2, z3⟩, zf⟩ := cells4_get HZ.out
            go_wp2_with fail
            refine HCF.out.mono ?_
            rintro e w9 ⟨rfl, rfl⟩
            go_wp2_with fail
            refine bodyPost_ret (v := .tuple #[.agg #[.bool false, .slice none 0 0, .slice none 0 0, .slice none 0 0], .int .i64 3]) (by simp [results, Try.results26, go_sem, z0, z1, z2, z3]) rfl ?_
            refine ⟨_, _, _, by rw [HDQ.out]; rfl, ?_, ?_, ?_, ?_, ?_⟩ <;> try rw [HDQ.out]
            · exact obb_nil
            · exact obb_nil
            · exact World.ownsRow_nil _ _ _ _
            · exact (((HB.out.setCell (p := ⟨w.heap.size, 0, none⟩) (Nat.le_refl _) _).setCell (p := ⟨w.heap.size, 1, none⟩) (Nat.le_refl _) _).setCell (p := ⟨w.heap.size, 2, none⟩) (Nat.le_refl _) _).setCell (p := ⟨w.heap.size, 3, none⟩) (Nat.le_refl _) _
            · simp [none0]
          | false =>
            rw [hbad] at d1
            have HBAD := Hid.mk' hbad
            clear hbad
            have hk1' : ((kind p : Int) != 1) = true := by simp; have := HKD1.out; omega
            by_cases hkt : kind p = 2
            · have hk2 : (kind p != 1 && kind p != 2) = false := by rw [hkt]; rfl
              have hk2' : ((kind p : Int) != 2) = false := by simp; omega
              clear hkt
              cases hany : c.b.any (· != 0) with
              | true =>
                have HDQ : Hid (dec p = (none0, 3)) := by show _ = _; rw [dec_eq HLEN.out HRD.out, hany, Bool.or_true]; rfl
                have HCF := Hid.mk' (c71 HBS.out)
                rw [hany] at HCF
                clear hany
                have hk2 := Hid.mk' hk2
                go_wp2_with fail
                refine HCF.out.mono ?_
                rintro e w9 ⟨rfl, rfl⟩
                obtain ⟨⟨z0, z1, z2, z3⟩, zf⟩ := cells4_get HZ.out
                go_wp2_with fail
                refine bodyPost_ret (v := .tuple #[.agg #[.bool false, .slice none 0 0, .slice none 0 0, .slice none 0 0], .int .i64 3]) (by simp [results, Try.results26, go_sem, z0, z1, z2, z3]) rfl ?_
                refine ⟨_, _, _, by rw [HDQ.out]; rfl, ?_, ?_, ?_, ?_, ?_⟩ <;> try rw [HDQ.out]
                · exact obb_nil
                · exact obb_nil
                · exact World.ownsRow_nil _ _ _ _
                · exact (((HB.out.setCell (p := ⟨w.heap.size, 0, none⟩) (Nat.le_refl _) _).setCell (p := ⟨w.heap.size, 1, none⟩) (Nat.le_refl _) _).setCell (p := ⟨w.heap.size, 2, none⟩) (Nat.le_refl _) _).setCell (p := ⟨w.heap.size, 3, none⟩) (Nat.le_refl _) _
                · simp [none0]
              | false =>
                have HCF := Hid.mk' (c71 HBS.out)
                rw [hany] at HCF
                have HQ : Hid (dec p = if check n != 0 then (none0, 3) else (n, 0)) := by show _ = _; rw [dec_eq HLEN.out HRD.out, hany, HBAD.out, hk2]; simp only [Bool.false_or]
                clear hany
                have hk2 := Hid.mk' hk2
                have HCH := Hid.mk' (check_any (HN.out.rn (by have := HL.out.1; unfold lim; omega) (by have := HL.out.2.1; unfold lim; omega) (by have := HL.out.2.2.1; unfold lim; omega) (fun x hx => by have := HL.out.2.2.2 x hx; omega)))
                rw [hlf] at HCH
                go_wp2_with fail
                refine HCF.out.mono ?_
                rintro e w9 ⟨rfl, rfl⟩
                go_wp2_with fail
                refine HCH.out.mono ?_
                rintro e w10 ⟨rfl, h10⟩
                have H10 := Hid.mk' h10
                have HZ10 : Hid (w10.heap[w.heap.size]? = some (.cells #[.bool false, .slice none 0 0, .slice none 0 0, .slice none 0 0] 37 (0, 0))) := by show _ = _; rw [h10.block _ (by omega)]; exact HZ.out
                obtain ⟨⟨z0, z1, z2, z3⟩, zf⟩ := cells4_get HZ10.out
                have b0' := cell_later h10 b0
                have b1' := cell_later h10 b1
                have b2' := cell_later h10 b2
                have b3' := cell_later h10 b3
                have HB10 := Hid.mk' (HB.out.trans (h10.mono (by omega)))
                clear h10
                by_cases hch : check n = 0
                · have hch' : (check n != 0) = false := by simp [hch]
                  have HDQ : Hid (dec p = (n, 0)) := by show _ = _; rw [HQ.out, hch']; rfl
                  clear hch
                  obtain ⟨kva, kvc, ekv⟩ := (let ⟨_, h, _⟩ := HN.out.keys; own_slice h)
                  obtain ⟨vva, vvc, evv⟩ := (let ⟨_, h, _⟩ := HN.out.vals; own_slice h)
                  obtain ⟨cva, cvc, ecv⟩ := own_slice HN.out.kids
                  subst ekv; subst evv; subst ecv
                  go_wp2_with fail
                  refine bodyPost_ret (v := .tuple #[.agg #[.bool false, .slice kva n.keys.length kvc, .slice vva n.vals.length vvc, .slice cva n.kids.length cvc], .int .i64 0]) (by simp [results, Try.results26, go_sem, z0, z1, z2, z3]) rfl ?_
                  have hset : Wb (fun k => k = w.heap.size) w10 ((((w10.setCell ⟨w.heap.size, 0, none⟩ (.bool false)).setCell ⟨w.heap.size, 1, none⟩ (.slice kva n.keys.length kvc)).setCell ⟨w.heap.size, 2, none⟩ (.slice vva n.vals.length vvc)).setCell ⟨w.heap.size, 3, none⟩ (.slice cva n.kids.length cvc)) :=
                    (((Wb.set (X := fun k => k = w.heap.size) _ _ _ _ rfl).trans (Wb.set (X := fun k => k = w.heap.size) _ _ _ _ rfl)).trans (Wb.set (X := fun k => k = w.heap.size) _ _ _ _ rfl)).trans (Wb.set (X := fun k => k = w.heap.size) _ _ _ _ rfl)
                  have hob : ∀ {v : Value} {ls : List (List UInt8)}, Obb 0 w.heap.size wr v ls → Obb 0 w.heap.size ((((w10.setCell ⟨w.heap.size, 0, none⟩ (.bool false)).setCell ⟨w.heap.size, 1, none⟩ (.slice kva n.keys.length kvc)).setCell ⟨w.heap.size, 2, none⟩ (.slice vva n.vals.length vvc)).setCell ⟨w.heap.size, 3, none⟩ (.slice cva n.kids.length cvc)) v ls := fun ho => (ho.up H10.out).wb hset fun k hk => by
                    subst hk
                    exact ⟨fun e => by obtain ⟨_, _, _, h1⟩ := (ho.up H10.out).typed _ e.symm; exact absurd (typed_ne h1 HZ10.out) (by decide), fun cur fr h1 => absurd (typed_ne h1 HZ10.out) (by decide)⟩
                  refine ⟨.slice kva n.keys.length kvc, .slice vva n.vals.length vvc, .slice cva n.kids.length cvc, by rw [HDQ.out, HLF.out], ?_, ?_, ?_, ?_, ?_⟩ <;> try rw [HDQ.out]
                  · exact hob HN.out.keys
                  · exact hob HN.out.vals
                  · exact own_wb (own_keep HN.out.kids H10.out (Nat.le_refl _)) hset fun k hk e => by
                      subst hk
                      obtain ⟨_, _, _, h1⟩ := own_typed (own_keep HN.out.kids H10.out (Nat.le_refl _)) _ e.symm
                      exact absurd (typed_ne h1 HZ10.out) (by decide)
                  · exact HB10.out.trans (hset.below (Nat.le_trans (Nat.le_of_lt (by omega)) H10.out.size) (fun k hk => by subst hk; exact Nat.le_refl _))
                  · have := HL.out
                    dsimp only
                    exact ⟨by omega, by omega, by omega, this.2.2.2⟩
                · have hch' : (check n != 0) = true := by simp [hch]
                  have HDQ : Hid (dec p = (none0, 3)) := by show _ = _; rw [HQ.out, hch']; rfl
                  clear hch
                  go_wp2_with fail
                  refine bodyPost_ret (v := .tuple #[.agg #[.bool false, .slice none 0 0, .slice none 0 0, .slice none 0 0], .int .i64 3]) (by simp [results, Try.results26, go_sem, z0, z1, z2, z3]) rfl ?_
                  refine ⟨_, _, _, by rw [HDQ.out]; rfl, ?_, ?_, ?_, ?_, ?_⟩ <;> try rw [HDQ.out]
                  · exact obb_nil
                  · exact obb_nil
                  · exact World.ownsRow_nil _ _ _ _
                  · exact (((HB10.out.setCell (p := ⟨w.heap.size, 0, none⟩) (Nat.le_refl _) _).setCell (p := ⟨w.heap.size, 1, none⟩) (Nat.le_refl _) _).setCell (p := ⟨w.heap.size, 2, none⟩) (Nat.le_refl _) _).setCell (p := ⟨w.heap.size, 3, none⟩) (Nat.le_refl _) _
                  · simp [none0]
            · have hk2 : (kind p != 1 && kind p != 2) = true := by simp; have := HKD1.out; omega
              have hk2' : ((kind p : Int) != 2) = true := by simp; omega
              clear hkt
              have HDQ : Hid (dec p = (none0, 3)) := by show _ = _; rw [dec_eq HLEN.out HRD.out, hk2, Bool.or_true]; rfl
              have hk2 := Hid.mk' hk2
              cases hany : c.b.any (· != 0) with
              | true =>
                have HCF := Hid.mk' (c71 HBS.out)
                rw [hany] at HCF
                clear hany
                go_wp2_with fail
                refine HCF.out.mono ?_
                rintro e w9 ⟨rfl, rfl⟩
                obtain ⟨⟨z0, z1, z2, z3⟩, zf⟩ := cells4_get HZ.out
                go_wp2_with fail
                refine bodyPost_ret (v := .tuple #[.agg #[.bool false, .slice none 0 0, .slice none 0 0, .slice none 0 0], .int .i64 3]) (by simp [results, Try.results26, go_sem, z0, z1, z2, z3]) rfl ?_
                refine ⟨_, _, _, by rw [HDQ.out]; rfl, ?_, ?_, ?_, ?_, ?_⟩ <;> try rw [HDQ.out]
                · exact obb_nil
                · exact obb_nil
                · exact World.ownsRow_nil _ _ _ _
                · exact (((HB.out.setCell (p := ⟨w.heap.size, 0, none⟩) (Nat.le_refl _) _).setCell (p := ⟨w.heap.size, 1, none⟩) (Nat.le_refl _) _).setCell (p := ⟨w.heap.size, 2, none⟩) (Nat.le_refl _) _).setCell (p := ⟨w.heap.size, 3, none⟩) (Nat.le_refl _) _
                · simp [none0]
              | false =>
                have HCF := Hid.mk' (c71 HBS.out)
                rw [hany] at HCF
                clear hany
                go_wp2_with fail
                refine HCF.out.mono ?_
                rintro e w9 ⟨rfl, rfl⟩
                obtain ⟨⟨z0, z1, z2, z3⟩, zf⟩ := cells4_get HZ.out
                go_wp2_with fail
                refine bodyPost_ret (v := .tuple #[.agg #[.bool false, .slice none 0 0, .slice none 0 0, .slice none 0 0], .int .i64 3]) (by simp [results, Try.results26, go_sem, z0, z1, z2, z3]) rfl ?_
                refine ⟨_, _, _, by rw [HDQ.out]; rfl, ?_, ?_, ?_, ?_, ?_⟩ <;> try rw [HDQ.out]
                · exact obb_nil
                · exact obb_nil
                · exact World.ownsRow_nil _ _ _ _
                · exact (((HB.out.setCell (p := ⟨w.heap.size, 0, none⟩) (Nat.le_refl _) _).setCell (p := ⟨w.heap.size, 1, none⟩) (Nat.le_refl _) _).setCell (p := ⟨w.heap.size, 2, none⟩) (Nat.le_refl _) _).setCell (p := ⟨w.heap.size, 3, none⟩) (Nat.le_refl _) _
                · simp [none0]
  · have hl' : ((p.length : Int) != 512) = true := by simp; omega
    have HD := Hid.mk' (dec_short hlen)
    have hz := zero4 w
    clear hlen
    go_enter Try.func26, Try.ntmps26
    go_wp2_with fail
    obtain ⟨⟨z0, z1, z2, z3⟩, _⟩ := cells4_get hz
    refine bodyPost_ret (v := .tuple #[.agg #[.bool false, .slice none 0 0, .slice none 0 0, .slice none 0 0], .int .i64 2]) (by simp [results, Try.results26, go_sem, z0, z1, z2, z3]) rfl ?_
    refine ⟨_, _, _, by rw [HD.out]; rfl, ?_, ?_, ?_, up_alloc _ _, ?_⟩ <;> rw [HD.out]
    · exact obb_nil
    · exact obb_nil
    · exact World.ownsRow_nil _ _ _ _
    · simp [none0]
end Go.Proofs.Ytfmbbpfklhkljaa
