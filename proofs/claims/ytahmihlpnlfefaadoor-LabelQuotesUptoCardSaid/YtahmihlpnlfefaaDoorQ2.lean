/- Walks: label.Quote. -/
import Derived.Test.YtahmihlpnlfefaaDoorB1
set_option linter.unusedVariables false
set_option linter.unusedSimpArgs false
namespace Go.Proofs.YtahmihlpnlfefaaDoor
open Go.RowKit
open PL
theorem bd_new (w : World) : Bd w.heap.size w.heap.size [] (w.alloc (.cells #[.pointer none, .slice none 0 0] 56)) :=
  .inl ⟨Nat.le_refl _, _, heap_alloc_new w _, World.ownsRow_nil _ _ _ _, by simp [Value.ownBlock]⟩
theorem Bd.lt {B b : Nat} {l : List UInt8} {w : World} (h : Bd B b l w) : b < w.heap.size := by
  rcases h with h | h <;> exact h.lt
theorem Bd.up {B b : Nat} {l : List UInt8} {w w' : World} (h : Bd B b l w) (hb : Below w.heap.size w w') : Bd B b l w' := by
  rcases h with ⟨hB, v, h1, h2, h3⟩ | ⟨hB, v, h1, h2, h3⟩
  · exact .inl ⟨hB, v, by rw [hb.block b (Array.getElem?_eq_some_iff.1 h1).1]; exact h1, own_keep h2 hb (Nat.le_refl _), h3⟩
  · exact .inr ⟨hB, v, by rw [hb.block b (Array.getElem?_eq_some_iff.1 h1).1]; exact h1, own_keep h2 hb (Nat.le_refl _), h3⟩
theorem bs_rowN {w : World} {xs : Array Value} {e : TypeId} (l : List UInt8) (hx : xs.toList = bv l) {n : Nat} (hn : n = l.length) (hl : l.length ≤ 1000) :
    Bs (fun k => k = w.heap.size) (w.alloc (.cells xs e)) (.slice (some ⟨w.heap.size, 0, none⟩) n n) l := by
  subst hn
  refine ⟨⟨by simp, _, _, rfl, Nat.le_refl _, by simp, fun j u hj => ⟨_, _, rfl, rfl, ?_⟩⟩, by unfold lim; omega⟩
  have : (w.alloc (.cells xs e)).heap[w.heap.size]? = some (.cells xs e) := heap_alloc_new w _
  rw [← hx] at hj
  simp only [World.cell?, this, Nat.zero_add]
  simpa using hj
theorem and8 (c : UInt8) : bits BinOp.and .u8 (c.toNat : Int) 15 = (c.toNat : Int) % 16 := by
  have h : ∀ a : Fin 256, bits BinOp.and .u8 (a.val : Int) 15 = (a.val : Int) % 16 := by decide +kernel
  exact h ⟨c.toNat, c.toNat_lt⟩
theorem dig_at (n : Nat) (hn : n < 16) (j : Nat) (hj : j = n) (h : j < (⟨#[48, 49, 50, 51, 52, 53, 54, 55, 56, 57, 97, 98, 99, 100, 101, 102]⟩ : ByteArray).size) : ((⟨#[48, 49, 50, 51, 52, 53, 54, 55, 56, 57, 97, 98, 99, 100, 101, 102]⟩ : ByteArray)[j]'h).toNat = (dgx n).toNat := by
  subst hj
  have h1 : ∀ d : Fin 16, ((⟨#[48, 49, 50, 51, 52, 53, 54, 55, 56, 57, 97, 98, 99, 100, 101, 102]⟩ : ByteArray)[d.val]'d.2).toNat = (dgx d.val).toNat := by decide +kernel
  exact h1 ⟨j, hn⟩
set_option maxRecDepth 100000 in
set_option maxHeartbeats 4000000 in
/-- label.Quote -/
theorem quote_any {A : Nat → Prop} (v : Value) (l : List UInt8) (w : World) (h : Bs A w v l) (hl : l.length * 4 + 8 ≤ lim) : Calls Tryd.prog 20 #[v] w fun e w' => e = .returned (.string ⟨(quote l).toArray⟩) ∧ Below w.heap.size w w' := by
  have hl2 : l.length * 4 + 8 ≤ 140737488351232 := hl
  obtain ⟨a, c, rfl, hc, _, H⟩ := h.at
  have HB0 := Hid.mk' h
  have H : Hid _ := H
  clear h
  have HN := Hid.mk' (bd_new w)
  have HA := Hid.mk' (up_alloc w (.cells #[.pointer none, .slice none 0 0] 56))
  go_enter Tryd.func20, Tryd.ntmps20
  go_wp2_with fail
  refine (bbyte_any w.heap.size w.heap.size 34 [] _ HN.out (by simp [lim]) (by simp)).mono ?_
  rintro e w1 ⟨rfl, h1, h2⟩
  have H1 := Hid.mk' h1
  have H2 := Hid.mk' (HA.out.trans h2)
  clear h1 h2
  go_wp2_with fail
  go_loopw [9, 5] (fun i x wr => ∃ k : Nat, k ≤ l.length ∧ i = .int .i64 k ∧ Hid (Below w.heap.size w wr) ∧ Hid (Bd w.heap.size w.heap.size (34 :: (l.take k).flatMap qb) wr)) (fun i _ _ => l.length - (intOf i).toNat)
  case atStart => exact ⟨0, by omega, rfl, H2, H1⟩
  case round =>
    obtain ⟨k, hk, rfl, HB, HD⟩ := hrel
    clear H1 H2 HN HA
    have HL := Hid.mk' (quote_len l k)
    have HS := HB.out.size
    by_cases hlt : k < l.length
    · have hlt' : (k : Int) < (l.length : Int) := by omega
      have hu1 : ∃ b o, a = some ⟨b, o, none⟩ ∧ wr.cell? ⟨b, o + k, none⟩ = some (.int .u8 (l[k].toNat : Int)) := by
        obtain ⟨b, o, hp, _, hu⟩ := H.out k hlt
        exact ⟨b, o, hp, cell_later HB.out hu⟩
      obtain ⟨b, o, rfl, hu⟩ := hu1
      have hlim : (l.length : Int) ≤ 140737488351232 := by omega
      have HT := Hid.mk' (quote_take l k hlt)
      generalize l[k] = c at *
      have hc0 : (0 : Int) ≤ (c.toNat : Int) := by omega
      have hc1 : (c.toNat : Int) < 256 := by have := c.toNat_lt; omega
      by_cases h12 : c = 34 ∨ c = 92
      · have hq : qb c = [92, c] := by unfold qb; rw [if_pos h12]
        rw [hq] at HT
        have he : ((c.toNat : Int) == 34) = true ∨ (((c.toNat : Int) == 34) = false ∧ ((c.toNat : Int) == 92) = true) := by
          rcases h12 with rfl | rfl
          · exact .inl rfl
          · exact .inr ⟨rfl, rfl⟩
        clear hq h12
        rcases he with he | ⟨he, he2⟩
        all_goals
          go_wp2_with fail
          have hw := up_alloc wr (.cells #[.int .u8 92, .int .u8 (c.toNat : Int)] 5)
          refine (bwrite_any w.heap.size w.heap.size _ _ [92, c] _ (HD.out.up hw) (bs_rowN [92, c] rfl rfl (by simp)) (fun k hk => by have := HD.out.lt; omega) (by have := HL.out; unfold lim; simp at this ⊢; omega) (by simp; omega)).mono ?_
          rintro e w2 ⟨rfl, h1, h2⟩
          have H1 := Hid.mk' h1
          have H2 := Hid.mk' ((HB.out.alloc HB.out.size _).trans h2)
          clear h1 h2 hw
          go_wp2_with fail
          go_roundw
          case rel => exact ⟨k + 1, by omega, by go_num, H2, by rw [HT.out]; exact H1⟩
          case measure => simp [intOf]; omega
      · have he1 : ((c.toNat : Int) == 34) = false := by
          rw [beq_eq_false_iff_ne]; intro e; exact h12 (.inl (UInt8.toNat_inj.1 (show c.toNat = 34 by omega)))
        have he2 : ((c.toNat : Int) == 92) = false := by
          rw [beq_eq_false_iff_ne]; intro e; exact h12 (.inr (UInt8.toNat_inj.1 (show c.toNat = 92 by omega)))
        by_cases h3 : 32 ≤ c.toNat ∧ c.toNat ≤ 126
        · have hq : qb c = [c] := by unfold qb; rw [if_neg h12, if_pos h3]
          rw [hq] at HT
          have g1 : (32 : Int) ≤ (c.toNat : Int) := by omega
          have g2 : (c.toNat : Int) ≤ 126 := by omega
          clear hq h12 h3
          go_wp2_with fail
          refine (bbyte_any w.heap.size w.heap.size c _ _ HD.out (by have := HL.out; unfold lim; omega) HB.out.size).mono ?_
          rintro e w2 ⟨rfl, h1, h2⟩
          have H1 := Hid.mk' h1
          have H2 := Hid.mk' (HB.out.trans h2)
          clear h1 h2
          go_wp2_with fail
          go_roundw
          case rel => exact ⟨k + 1, by omega, by go_num, H2, by rw [HT.out]; exact H1⟩
          case measure => simp [intOf]; omega
        · have hq : qb c = [92, 120, dgx (c.toNat / 16), dgx (c.toNat % 16)] := by unfold qb; rw [if_neg h12, if_neg h3]
          rw [hq] at HT
          have g1 : (c.toNat : Int) < 32 ∨ (32 : Int) ≤ (c.toNat : Int) ∧ ¬ (c.toNat : Int) ≤ 126 := by omega
          have ea := and8 c
          have m1 : (c.toNat : Int) % 16 < 16 := by omega
          have m2 : (0 : Int) ≤ (c.toNat : Int) % 16 := by omega
          have m3 : (c.toNat : Int) / 16 < 16 := by omega
          have m4 : (0 : Int) ≤ (c.toNat : Int) / 16 := by omega
          have d1 := dig_at (c.toNat % 16) (by omega) ((c.toNat : Int) % 16).toNat (by omega)
          have d2 := dig_at (c.toNat / 16) (by omega) ((c.toNat : Int) / 16).toNat (by omega)
          have HC := Hid.mk' (bwrite_any (A := fun k => k = wr.heap.size) w.heap.size w.heap.size (.slice (some ⟨wr.heap.size, 0, none⟩) 4 4) _ [92, 120, dgx (c.toNat / 16), dgx (c.toNat % 16)] (wr.alloc (.cells #[.int .u8 92, .int .u8 120, .int .u8 ((dgx (c.toNat / 16)).toNat : Int), .int .u8 ((dgx (c.toNat % 16)).toNat : Int)] 5)).drew
            (HD.out.up (up_alloc wr _).drew) (bs_rowN (w := wr) (e := 5) [92, 120, dgx (c.toNat / 16), dgx (c.toNat % 16)] rfl rfl (by simp)) (fun k hk => by have := HD.out.lt; omega) (by have := HL.out; unfold lim; simp at this ⊢; omega) (by simp; omega))
          clear hq h12 h3
          rcases g1 with g1 | ⟨g1, g2⟩
          all_goals
            go_wp2_with fail
            go_region_with (refine HC.out.mono ?_; rintro e w2 ⟨rfl, h1, h2⟩; have H1 := Hid.mk' h1; have H2 := Hid.mk' (((HB.out.trans (up_alloc wr _ |>.mono HB.out.size)).trans ((Dn.refl _).drew.below _)).trans h2); clear h1 h2)
            go_wp2_with fail
            all_goals exact ⟨⟨k + 1, by omega, by go_num, H2, by rw [HT.out]; exact H1⟩, by simp [intOf]; omega⟩
    · have hkk : k = l.length := by omega
      have HQ : Hid ((34 :: (l.take k).flatMap qb) ++ [34] = quote l) := by
        show _ = _
        rw [hkk, List.take_length]; rfl
      clear hkk
      go_wp2_with fail
      refine (bbyte_any w.heap.size w.heap.size 34 _ _ HD.out (by have := HL.out; unfold lim; omega) HB.out.size).mono ?_
      rintro e w2 ⟨rfl, h1, h2⟩
      rw [HQ.out] at h1
      have H1 := Hid.mk' h1
      have H2 := Hid.mk' (HB.out.trans h2)
      clear h1 h2
      go_wp2_with fail
      refine (Tryd.Builder_String_any w.heap.size w.heap.size (quote l) _ H1.out H2.out.size).mono ?_
      rintro e w3 ⟨rfl, h3⟩
      have H3 := Hid.mk' (H2.out.trans h3)
      clear h3
      go_wp2_with fail
      go_ret
      exact ⟨rfl, H3.out⟩
end Go.Proofs.YtahmihlpnlfefaaDoor
