/- Walks: groynelaw10.awake; groynelaw10.VaultNumbers. -/
import Derived.Test.YtfmbbpfklhkljaaW3
set_option linter.unusedVariables false
set_option linter.unusedSimpArgs false
namespace Go.Proofs.Ytfmbbpfklhkljaa
open Go.RowKit
theorem bs_lit10 (w : World) (x : UInt8) (y : Int) (hy : y = (x.toNat : Int)) (k : Nat) (hk : k = w.heap.size) : Bs (Lt (k + 1)) (w.alloc (.cells #[.int .u8 y] 5)) (.slice (some ⟨k, 0, none⟩) 1 1) [x] := by
  subst hk; subst hy; exact ⟨row_one, by simp [lim]⟩
theorem vault_new (w : World) : VaultIs w.heap.size (fun _ => False) (w.alloc (.cells #[.map none] 81)) w.heap.size (fun _ => none) 0 :=
  ⟨Nat.le_refl _, .inl ⟨heap_alloc_new w _, rfl, fun _ => rfl⟩⟩
theorem VaultIs.up {B b n : Nat} {V : Nat → Prop} {w w' : World} {f : List UInt8 → Option (List UInt8)} (h : VaultIs B V w b f n) (hb : Below w.heap.size w w') : VaultIs B V w' b f n := by
  obtain ⟨hB, ⟨h, rfl, hf⟩ | ⟨M, g, hM, h, hm, hf⟩⟩ := h
  · exact ⟨hB, .inl ⟨by rw [hb.block b (Array.getElem?_eq_some_iff.1 h).1]; exact h, rfl, hf⟩⟩
  · refine ⟨hB, .inr ⟨M, g, hM, by rw [hb.block b (Array.getElem?_eq_some_iff.1 h).1]; exact h, hm.block (hb.block M hm.lt), fun s => ?_⟩⟩
    rcases hf s with h | ⟨v, l, h1, h2, h3, h4⟩
    · exact .inl h
    · exact .inr ⟨v, l, h1, h2, h3.keep hb (Nat.le_refl _), h4⟩
theorem VaultIs.now {B b n : Nat} {V : Nat → Prop} {w : World} {f : List UInt8 → Option (List UInt8)} (h : VaultIs B V w b f n) : VaultIs B (fun k => V k ∧ k < w.heap.size) w b f n := by
  obtain ⟨hB, h | ⟨M, g, hM, h, hm, hf⟩⟩ := h
  · exact ⟨hB, .inl h⟩
  · refine ⟨hB, .inr ⟨M, g, hM, h, hm, fun s => ?_⟩⟩
    rcases hf s with h | ⟨v, l, h1, h2, h3, h4, h5⟩
    · exact .inl h
    · exact .inr ⟨v, l, h1, h2, h3, h4, fun k e => ⟨h5 k e, (h3.lt k e).2⟩⟩
set_option maxRecDepth 100000 in
set_option maxHeartbeats 1000000 in
theorem awake10 (w : World) : Calls Try.prog 12 #[] w fun e w' => e = .returned (.bool true) ∧ Below w.heap.size w w' := by
  go_enter Try.func12, Try.ntmps12
  go_wp2_with fail
  refine (new_any _).mono ?_
  rintro e w1 ⟨rfl, rfl⟩
  go_wp2_with fail
  have h1 := put_any [97] [1] ((vault_new w).up (up_alloc _ (.cells #[.int .u8 1] 5))) (by decide) (by decide) (bs_lit10 (w.alloc (.cells #[.map none] 81)) 1 1 rfl (w.heap.size + 1) (by simp))
  refine h1.mono ?_
  clear h1
  rintro e w1 ⟨rfl, hb1, hk1, hv1⟩
  have e1 : putC (fun _ => none) [97] [1] = 0 := rfl
  rw [e1]
  have hx : w.heap.size ≤ w1.heap.size := by have := hb1.size; simp at this; omega
  go_wp2_with fail
  have h2 := put_any [97] [2] (hv1.up (up_alloc _ (.cells #[.int .u8 2] 5))) (by decide) (by decide) (bs_lit10 w1 2 2 rfl w1.heap.size rfl)
  refine h2.mono ?_
  clear h2
  rintro e w2 ⟨rfl, hb2, hk2, hv2⟩
  have e2 : putC (putF (fun _ => none) [97] [1]) [97] [2] = 7 := by decide
  rw [e2]
  go_wp2_with fail
  refine (count_any hv2).mono ?_
  rintro e w3 ⟨rfl, rfl⟩
  have e3 : ((putN (putF (fun _ => none) [97] [1]) [97] (putN (fun _ => none) [97] 0) : Nat) : Int) = 1 := by decide
  rw [e3]
  go_wp2_with fail
  refine (number_any 255 (by decide) _).mono ?_
  rintro e w3 ⟨rfl, hb3⟩
  have e4 : hex 255 = [48, 48, 48, 48, 48, 48, 48, 48, 48, 48, 48, 48, 48, 48, 102, 102] := by decide
  rw [e4]
  go_wp2_with fail
  go_ret
  have hy : w.heap.size ≤ w2.heap.size := by have := hb2.size; simp at this; omega
  exact ⟨rfl, (((((up_alloc w _).alloc (by simp) _).trans hb1).alloc hx _).trans hb2).trans (hb3.mono hy)⟩
theorem toNumber_some (s : List UInt8) (m : Nat) (h : numV s = some m) (w : World) : Calls Try.prog 14 #[.string ⟨s.toArray⟩] w fun e w' => e = .returned (.tuple #[.int .u64 m, .bool true]) ∧ w = w' := by
  have := toNumber_any s w
  rw [h] at this; exact this
theorem toNumber_none (s : List UInt8) (h : numV s = none) (w : World) : Calls Try.prog 14 #[.string ⟨s.toArray⟩] w fun e w' => e = .returned (.tuple #[.int .u64 0, .bool false]) ∧ w = w' := by
  have := toNumber_any s w
  rw [h] at this; exact this
set_option maxRecDepth 100000 in
set_option maxHeartbeats 1000000 in
theorem vaultNumbers_walk (a b : Nat) (ha : a < 18446744073709551616) (hb : b < 18446744073709551616) (s : List UInt8) (w : World) :
    Calls Try.prog 3 #[.int .u64 a, .int .u64 b, .string ⟨s.toArray⟩] w fun e w' => e = .returned (.bool true) ∧ Below w.heap.size w w' := by
  have HA := Hid.mk' ha
  have HB := Hid.mk' hb
  have hla := numV_hex a ha
  have HLA := Hid.mk' hla
  have hlt := less_hex a b ha hb
  clear ha hb hla
  go_enter Try.func3, Try.ntmps3
  go_wp2_with fail
  refine (awake10 _).mono ?_
  rintro e w1 ⟨rfl, hb1⟩
  go_wp2_with fail
  refine (number_any a HA.out _).mono ?_
  rintro e w2 ⟨rfl, hb2⟩
  go_wp2_with fail
  refine (number_any b HB.out _).mono ?_
  rintro e w3 ⟨rfl, hb3⟩
  go_wp2_with fail
  refine (toNumber_some _ _ HLA.out _).mono ?_
  rintro e w4 ⟨rfl, rfl⟩
  go_wp2_with fail
  refine (refNumber_any a HA.out _).mono ?_
  rintro e w4 ⟨rfl, hb4⟩
  go_wp2_with fail
  cases hv : numV s with
  | some m =>
    obtain ⟨rfl, hm⟩ := hex_numV s m hv
    have HV := Hid.mk' hv
    have HM := Hid.mk' hm
    clear hv hm
    refine (toNumber_some _ _ HV.out _).mono ?_
    rintro e w5 ⟨rfl, rfl⟩
    go_wp2_with fail
    refine (number_any m HM.out _).mono ?_
    rintro e w6 ⟨rfl, hb6⟩
    go_wp2_with fail
    go_ret
    exact ⟨rfl, (((hb1.trans (hb2.mono hb1.size)).trans (hb3.mono (Nat.le_trans hb1.size hb2.size))).trans (hb4.mono (Nat.le_trans hb1.size (Nat.le_trans hb2.size hb3.size)))).trans (hb6.mono (Nat.le_trans hb1.size (Nat.le_trans hb2.size (Nat.le_trans hb3.size hb4.size))))⟩
  | none =>
    have HV := Hid.mk' hv
    clear hv
    refine (toNumber_none _ HV.out _).mono ?_
    rintro e w5 ⟨rfl, rfl⟩
    by_cases hl : s.length = 16
    · have hne : ¬ hex 0 = s := by
        intro e; have := HV.out; rw [← e, numV_hex 0 (by decide)] at this; cases this
      have e16 : ((⟨s.toArray⟩ : ByteArray).size : Int) = 16 := by simp [ByteArray.size]; omega
      go_wp2_with fail
      refine (refNumber_any 0 (by decide) _).mono ?_
      rintro e w6 ⟨rfl, hb6⟩
      go_wp2_with fail
      go_ret
      exact ⟨congrArg (fun b => Ending.returned (.bool b)) (by simp [hne]), bt (bt (bt (bt hb1 hb2) hb3) hb4) hb6⟩
    · have e16 : ¬ ((⟨s.toArray⟩ : ByteArray).size : Int) = 16 := by simp [ByteArray.size]; omega
      go_wp2_with fail
      go_ret
      exact ⟨rfl, ((hb1.trans (hb2.mono hb1.size)).trans (hb3.mono (Nat.le_trans hb1.size hb2.size))).trans (hb4.mono (Nat.le_trans hb1.size (Nat.le_trans hb2.size hb3.size)))⟩
end Go.Proofs.Ytfmbbpfklhkljaa
