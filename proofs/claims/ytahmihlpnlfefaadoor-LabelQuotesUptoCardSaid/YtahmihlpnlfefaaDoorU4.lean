/- Walks: the reference's Quote. -/
import Derived.Test.YtahmihlpnlfefaaDoorU3
set_option linter.unusedVariables false
set_option linter.unusedSimpArgs false
namespace Go.Proofs.YtahmihlpnlfefaaDoor
open Go.RowKit
open PL
theorem digitOf_int (x : Int) (d : Nat) (hx : x = d) (h : d < 16) (w : World) : Calls Tryd.prog 46 #[.int .u8 x] w fun e w' => e = .returned (.int .u8 ((dgx d).toNat : Int)) ∧ w = w' := by
  subst hx; exact digitOf_any d h w
theorem bs_row {w : World} {xs : Array Value} {e : TypeId} (l : List UInt8) (hx : xs.toList = bv l) {n : Nat} (hn : n = l.length) (hl : l.length ≤ 1000) :
    Bs (Lt (w.heap.size + 1)) (w.alloc (.cells xs e)) (.slice (some ⟨w.heap.size, 0, none⟩) n n) l := by
  subst hn
  refine ⟨⟨by simp, _, _, rfl, Nat.le_refl _, by simp, fun j u hj => ⟨_, _, rfl, Nat.lt_succ_self _, ?_⟩⟩, by unfold lim; omega⟩
  have : (w.alloc (.cells xs e)).heap[w.heap.size]? = some (.cells xs e) := heap_alloc_new w _
  rw [← hx] at hj
  simp only [World.cell?, this, Nat.zero_add]
  simpa using hj
theorem quote_take (l : List UInt8) (k : Nat) (h : k < l.length) : 34 :: (l.take (k + 1)).flatMap qb = (34 :: (l.take k).flatMap qb) ++ qb l[k] := by
  rw [List.take_succ_eq_append_getElem h, List.flatMap_append]; simp
theorem qb_len (c : UInt8) : (qb c).length ≤ 4 := by unfold qb; split <;> (try split) <;> simp
theorem quote_len (l : List UInt8) (k : Nat) : (34 :: (l.take k).flatMap qb).length ≤ l.length * 4 + 1 := by
  have : ∀ m : List UInt8, (m.flatMap qb).length ≤ m.length * 4 := by
    intro m
    induction m with
    | nil => simp
    | cons x m ih => have := qb_len x; simp only [List.flatMap_cons, List.length_append, List.length_cons]; omega
  have h1 := this (l.take k)
  have h2 : (l.take k).length ≤ l.length := List.length_take_le' _ _
  simp only [List.length_cons]; omega
set_option maxRecDepth 100000 in
set_option maxHeartbeats 4000000 in
/-- groyneref02.Quote -/
theorem rquote_any {A : Nat → Prop} (v : Value) (l : List UInt8) (w : World) (h : Bs A w v l) (hl : l.length * 4 + 8 ≤ lim) : Calls Tryd.prog 23 #[v] w fun e w' => e = .returned (.string ⟨(quote l).toArray⟩) ∧ Below w.heap.size w w' := by
  have hl2 : l.length * 4 + 8 ≤ 140737488351232 := hl
  obtain ⟨a, c, rfl, hc, _, H⟩ := h.at
  have HB0 := Hid.mk' h
  have H : Hid _ := H
  clear h
  go_enter Tryd.func23, Tryd.ntmps23
  go_wp2
  go_loopw [3, 4, 5] (fun o i x wr => ∃ k : Nat, k ≤ l.length ∧ i = .int .i64 k ∧ Hid (Below w.heap.size w wr) ∧ Hid (Ob 5 w.heap.size wr o (34 :: (l.take k).flatMap qb))) (fun _ i _ _ => l.length - (intOf i).toNat)
  case atStart =>
    refine ⟨0, by omega, rfl, Hid.mk' (up_alloc _ _), ?_⟩
    have := World.ownsRow_lit (base := w.heap.size) (e := 5) (size := 1) w #[.int .u8 34] 1 (Nat.le_refl _) (by decide) (by simp)
    exact Hid.mk' (by simpa [Ob, bv] using this)
  case round =>
    obtain ⟨k, hk, rfl, HB, HO⟩ := hrel
    by_cases hlt : k < l.length
    · have hlt' : (k : Int) < (l.length : Int) := by omega
      have hu1 : ∃ b o, a = some ⟨b, o, none⟩ ∧ wr.cell? ⟨b, o + k, none⟩ = some (.int .u8 (l[k].toNat : Int)) := by
        obtain ⟨b, o, hp, _, hu⟩ := H.out k hlt
        exact ⟨b, o, hp, cell_later HB.out hu⟩
      obtain ⟨b, o, rfl, hu⟩ := hu1
      have hlim : (l.length : Int) ≤ 140737488351232 := by omega
      have HT := Hid.mk' (quote_take l k hlt)
      have HL := Hid.mk' (quote_len l k)
      generalize l[k] = c at *
      have hc0 : (0 : Int) ≤ (c.toNat : Int) := by omega
      have hc1 : (c.toNat : Int) < 256 := by have := c.toNat_lt; omega
      by_cases h12 : c = 34 ∨ c = 92
      · have hq : qb c = [92, c] := by unfold qb; rw [if_pos h12]
        rw [hq] at HT
        have he : ((c.toNat : Int) == 34) = true ∨ (((c.toNat : Int) == 34) = false ∧ ((c.toNat : Int) == 92) = true) := by
          rcases h12 with rfl | rfl
          · exact .inl rfl
          · exact .inr ⟨rfl, rfl⟩
        clear hq h12
        rcases he with he | ⟨he, he2⟩
        all_goals
          go_wp2_with (at_builtin; go_must (refine app31 rfl (.tmp 33) (.tmp 35) rfl rfl (by exact (Ob.alloc HO.out _)) rfl (bs_row [92, c] rfl rfl (by simp)) (by have := HL.out; simp at this ⊢; omega) (by have := HB.out.size; simp; omega) ?_); intro v' w2 ho hgr hn hb; have HO2 := Hid.mk' ho; have HB2 := Hid.mk' (below_app (HB.out.alloc HB.out.size _) (Ob.alloc HO.out _) hgr (Nat.le_refl _) (by have := HB.out.size; simp; omega)); clear ho hgr hn hb)
          go_roundw
          case rel => exact ⟨k + 1, by omega, by go_num, HB2, by rw [HT.out]; exact HO2⟩
          case measure => simp [intOf]; omega
      · have he1 : ((c.toNat : Int) == 34) = false := by
          rw [beq_eq_false_iff_ne]; intro e; exact h12 (.inl (UInt8.toNat_inj.1 (show c.toNat = 34 by omega)))
        have he2 : ((c.toNat : Int) == 92) = false := by
          rw [beq_eq_false_iff_ne]; intro e; exact h12 (.inr (UInt8.toNat_inj.1 (show c.toNat = 92 by omega)))
        by_cases h3 : 32 ≤ c.toNat ∧ c.toNat ≤ 126
        · have hq : qb c = [c] := by unfold qb; rw [if_neg h12, if_pos h3]
          rw [hq] at HT
          have g1 : (32 : Int) ≤ (c.toNat : Int) := by omega
          have g2 : (c.toNat : Int) < 127 := by omega
          clear hq h12 h3
          go_wp2_with (at_builtin; go_must (refine app31 rfl (.tmp 44) (.tmp 46) rfl rfl (by exact (Ob.alloc HO.out _)) rfl (bs_row [c] rfl rfl (by simp)) (by have := HL.out; simp at this ⊢; omega) (by have := HB.out.size; simp; omega) ?_); intro v' w2 ho hgr hn hb; have HO2 := Hid.mk' ho; have HB2 := Hid.mk' (below_app (HB.out.alloc HB.out.size _) (Ob.alloc HO.out _) hgr (Nat.le_refl _) (by have := HB.out.size; simp; omega)); clear ho hgr hn hb)
          go_roundw
          case rel => exact ⟨k + 1, by omega, by go_num, HB2, by rw [HT.out]; exact HO2⟩
          case measure => simp [intOf]; omega
        · have hq : qb c = [92, 120, dgx (c.toNat / 16), dgx (c.toNat % 16)] := by unfold qb; rw [if_neg h12, if_neg h3]
          rw [hq] at HT
          have D1 := Hid.mk' (digitOf_int ((c.toNat : Int) / 16) (c.toNat / 16) (by omega) (by omega))
          have D2 := Hid.mk' (digitOf_int ((c.toNat : Int) % 16) (c.toNat % 16) (by omega) (by omega))
          generalize dgx (c.toNat / 16) = x at *
          generalize dgx (c.toNat % 16) = y at *
          have g1 : (c.toNat : Int) < 32 ∨ (32 : Int) ≤ (c.toNat : Int) ∧ ¬ (c.toNat : Int) < 127 := by omega
          clear hq h12 h3
          rcases g1 with g1 | ⟨g1, g2⟩
          all_goals
            go_wp2_with fail
            refine (D1.out _).mono ?_
            rintro e w' ⟨rfl, rfl⟩
            go_wp2_with fail
            refine (D2.out _).mono ?_
            rintro e w' ⟨rfl, rfl⟩
            go_wp2_with (at_builtin; go_must (refine app31 rfl (.tmp 17) (.tmp 24) rfl rfl (by exact (Ob.alloc HO.out _)) rfl (bs_row [92, 120, x, y] rfl rfl (by simp)) (by have := HL.out; simp at this ⊢; omega) (by have := HB.out.size; simp; omega) ?_); intro v' w2 ho hgr hn hb; have HO2 := Hid.mk' ho; have HB2 := Hid.mk' (below_app (HB.out.alloc HB.out.size _) (Ob.alloc HO.out _) hgr (Nat.le_refl _) (by have := HB.out.size; simp; omega)); clear ho hgr hn hb)
            go_roundw
            case rel => exact ⟨k + 1, by omega, by go_num, HB2, by rw [HT.out]; exact HO2⟩
            case measure => simp [intOf]; omega
    · have hkk : k = l.length := by omega
      have HQ : Hid ((34 :: (l.take k).flatMap qb) ++ [34] = quote l) := by
        show _ = _
        rw [hkk, List.take_length]; rfl
      clear hkk
      have HL := Hid.mk' (quote_len l k)
      go_wp2_with (at_builtin; go_must (refine app31 rfl (.tmp 48) (.tmp 49) rfl rfl (by exact (Ob.alloc HO.out _)) rfl (bs_row [34] rfl rfl (by simp)) (by have := HL.out; simp at this ⊢; omega) (by have := HB.out.size; simp; omega) ?_); intro v' w2 ho hgr hn hb; have HO2 := Hid.mk' ho; have HB2 := Hid.mk' (below_app (HB.out.alloc HB.out.size _) (Ob.alloc HO.out _) hgr (Nat.le_refl _) (by have := HB.out.size; simp; omega)); clear ho hgr hn hb; have hst := run_str (P := Tryd.prog) 31 9 Tryd.underlying31 Tryd.underlying5 Tryd.underlying9 (Ob.bs HO2.out (by have := HL.out; unfold lim; simp at this ⊢; omega)))
      go_ret
      exact ⟨ret_s HQ.out, HB2.out⟩
end Go.Proofs.YtahmihlpnlfefaaDoor
