/- Walks: the reference's digits; Equal; the reference's Quote. -/
import Derived.Test.YtahmihlpnlfefaaDoorU2
import Derived.Test.YtahmihlpnlfefaaDoorL8
set_option linter.unusedVariables false
set_option linter.unusedSimpArgs false
namespace Go.Proofs.YtahmihlpnlfefaaDoor
open Go.RowKit
open PL
theorem dgx_nat (d : Nat) (h : d < 16) : ((dgx d).toNat : Int) = if d < 10 then 48 + (d : Int) else 87 + d := by
  unfold dgx; split <;> simp <;> omega
/-- groyneref02.digitOf -/
theorem digitOf_any (d : Nat) (h : d < 16) (w : World) : Calls Tryd.prog 46 #[.int .u8 (d : Int)] w fun e w' => e = .returned (.int .u8 ((dgx d).toNat : Int)) ∧ w = w' := by
  have HR := Hid.mk' (dgx_nat d h)
  have h0 : (d : Int) < 16 := by omega
  have e1 : ∀ x : Int, 0 ≤ x → x < 16 → IntKind.u8.wrap (48 + x) = 48 + x := fun x _ _ => by rw [IntKind.wrap_u8]; omega
  have e2 : ∀ x : Int, 0 ≤ x → x < 16 → IntKind.u8.wrap (97 + x) = 97 + x := fun x _ _ => by rw [IntKind.wrap_u8]; omega
  have E1 := Hid.mk' e1
  have E2 := Hid.mk' e2
  clear e1 e2
  by_cases h1 : (d : Int) < 10
  · have q1 := E1.out d (by omega) (by omega)
    go_enter Tryd.func46, Tryd.ntmps46
    go_wp2
    go_ret
    exact ⟨ret_n (by rw [HR.out, if_pos (by omega)]), rfl⟩
  · have q1 := E2.out d (by omega) (by omega)
    have q2 : IntKind.u8.wrap (97 + (d : Int) - 10) = 87 + d := by rw [IntKind.wrap_u8]; omega
    go_enter Tryd.func46, Tryd.ntmps46
    go_wp2
    go_ret
    exact ⟨ret_n (by rw [HR.out, if_neg (by omega)]), rfl⟩
def hxJ (c : UInt8) : Int := hxI c
set_option maxRecDepth 100000 in
/-- groyneref02.hexOf -/
theorem hexOf_any (c : UInt8) (w : World) : Calls Tryd.prog 48 #[.int .u8 (c.toNat : Int)] w fun e w' => e = .returned (.int .i64 (hxI c)) ∧ w = w' := by
  have hc : (c.toNat : Int) < 256 := by have := c.toNat_lt; omega
  cases hd : dgt c
  · have HD := Hid.mk' hd
    have HR : Hid (hxI c = if 97 ≤ (c.toNat : Int) ∧ (c.toNat : Int) ≤ 102 then (c.toNat : Int) - 87 else -1) := by
      show _ = _
      simp only [dgt, Bool.and_eq_false_iff, decide_eq_false_iff_not] at hd
      unfold hxI hx; rw [if_neg (by omega)]
      by_cases h : 97 ≤ c.toNat ∧ c.toNat ≤ 102
      · rw [if_pos h, if_pos (by omega)]; simp; omega
      · rw [if_neg h, if_neg (by omega)]
    clear hd
    go_enter Tryd.func48, Tryd.ntmps48
    go_wp2_with fail
    refine (rdigit_f c HD.out _).mono ?_
    rintro e w' ⟨rfl, rfl⟩
    go_wp2_with fail
    all_goals
      go_ret
      exact ⟨ret_n (by rw [HR.out]; split <;> omega), rfl⟩
  · have HD := Hid.mk' hd
    have HR : Hid (hxI c = (c.toNat : Int) - 48) := by
      show _ = _
      simp only [dgt, Bool.and_eq_true, decide_eq_true_eq] at hd
      unfold hxI hx; rw [if_pos (by omega)]; simp; omega
    have q1 : IntKind.u8.wrap ((c.toNat : Int) - 48) = (c.toNat : Int) - 48 := by
      simp only [dgt, Bool.and_eq_true, decide_eq_true_eq] at hd
      rw [IntKind.wrap_u8]; omega
    have q2 : IntKind.i64.wrap ((c.toNat : Int) - 48) = (c.toNat : Int) - 48 := by rw [IntKind.wrap_i64]; omega
    clear hd
    go_enter Tryd.func48, Tryd.ntmps48
    go_wp2_with fail
    refine (rdigit_t c HD.out _).mono ?_
    rintro e w' ⟨rfl, rfl⟩
    go_wp2_with fail
    go_ret
    exact ⟨ret_n HR.out.symm, rfl⟩
set_option maxHeartbeats 400000 in
/-- groyneref01.Equal -/
theorem equal_any {A A' : Nat → Prop} (v u : Value) (l m : List UInt8) (w : World) (h : Bs A w v l) (h' : Bs A' w u m) : Calls Tryd.prog 24 #[v, u] w fun e w' => e = .returned (.bool (l == m)) ∧ Dn w w' := by
  have HC := Hid.mk' (cmp_any v u l m w h h')
  have HZ : Hid ((cmp l m == 0) = (l == m)) := by
    show _ = _
    rw [Bool.eq_iff_iff]; simp [cmp_zero]
  clear h h'
  go_enter Tryd.func24, Tryd.ntmps24
  go_wp2_with fail
  refine HC.out.mono ?_
  rintro e w' ⟨rfl, hd⟩
  have HD := Hid.mk' hd
  clear hd
  go_wp2_with fail
  go_ret
  exact ⟨ret_b HZ.out, HD.out⟩
end Go.Proofs.YtahmihlpnlfefaaDoor
