/- Walks: the law LabelOrders. -/
import Derived.Test.YtahmihlpnlfefaaDoorL10
import Derived.Test.YtahmihlpnlfefaaDoorL11
set_option linter.unusedVariables false
set_option linter.unusedSimpArgs false
namespace Go.Proofs.YtahmihlpnlfefaaDoor
open Go.RowKit
open PL
set_option maxRecDepth 100000 in
set_option maxHeartbeats 1000000 in
/-- awake -/
theorem awake_any (w : World) : Calls Tryd.prog 10 #[] w fun e w' => e = .returned (.bool true) ∧ Below w.heap.size w w' := by
  have k1 : ∀ w, Calls Tryd.prog 11 #[.string ⟨#[98, 57]⟩] w fun e w' => e = .returned (.tuple #[.string ⟨#[98, 49, 48]⟩, .bool true]) ∧ Below w.heap.size w w' := fun w => by
    have := next_any [98, 57] w
    rw [nx9] at this; exact this
  have k2 : ∀ w, Calls Tryd.prog 12 #[.string ⟨#[98, 45, 49]⟩] w fun e w' => e = .returned (.bool true) ∧ w = w' := fun w => by
    have := valid_any [98, 45, 49] w
    rw [vb1] at this; exact this
  have k3 : ∀ w, Calls Tryd.prog 15 #[.string ⟨#[98, 57]⟩, .string ⟨#[98, 49, 48]⟩] w fun e w' => e = .returned (.int .i64 (-1)) ∧ Below w.heap.size w w' := fun w => by
    have := comp_any [98, 57] [98, 49, 48] (by decide) (by decide) w
    rw [cm9] at this; exact this
  have K1 := Hid.mk' k1
  have K2 := Hid.mk' k2
  have K3 := Hid.mk' k3
  clear k1 k2 k3
  go_enter Tryd.func10, Tryd.ntmps10
  go_wp2_with fail
  refine (K1.out _).mono ?_
  rintro e w1 ⟨rfl, h1⟩
  have H1 := Hid.mk' h1
  clear h1
  go_wp2_with fail
  refine (K2.out _).mono ?_
  rintro e w2 ⟨rfl, rfl⟩
  go_wp2_with fail
  refine (K3.out _).mono ?_
  rintro e w3 ⟨rfl, h3⟩
  have H3 := Hid.mk' h3
  clear h3
  go_wp2_with fail
  go_ret
  exact ⟨rfl, bt H1.out H3.out⟩
theorem anti_neg (a b : List UInt8) : comp b a = - comp a b := comp_ord.anti a b
set_option maxRecDepth 100000 in
set_option maxHeartbeats 2000000 in
/-- LabelOrders -/
theorem orders_any (a0 b0 c0 : List UInt8) (ha : a0.length ≤ maxLen) (hb : b0.length ≤ maxLen) (hc : c0.length ≤ maxLen) (w : World) : Calls Tryd.prog 4 #[.string ⟨a0.toArray⟩, .string ⟨b0.toArray⟩, .string ⟨c0.toArray⟩] w fun e w' => e = .returned (.bool true) ∧ Below w.heap.size w w' := by
  have KA := Hid.mk' (cut_any a0 2000 ha (by decide))
  have KB := Hid.mk' (cut_any b0 2000 hb (by decide))
  have KC := Hid.mk' (cut_any c0 2000 hc (by decide))
  have la : (a0.take 2000).length ≤ 100000 := by simp; omega
  have lb : (b0.take 2000).length ≤ 100000 := by simp; omega
  have lc : (c0.take 2000).length ≤ 100000 := by simp; omega
  generalize a0.take 2000 = a at *
  generalize b0.take 2000 = b at *
  generalize c0.take 2000 = c at *
  have ma : a.length ≤ maxLen := by unfold maxLen; omega
  have mb : b.length ≤ maxLen := by unfold maxLen; omega
  have mc : c.length ≤ maxLen := by unfold maxLen; omega
  have AB := Hid.mk' (comp_any a b ma mb)
  have BC := Hid.mk' (comp_any b c mb mc)
  have AC := Hid.mk' (comp_any a c ma mc)
  have BA := Hid.mk' (comp_any b a mb ma)
  have AA := Hid.mk' (comp_any a a ma ma)
  have RAB := Hid.mk' (rcomp_any a b la lb)
  rw [anti_neg a b] at BA
  rw [(comp_zero a a).2 rfl] at AA
  have hz := comp_zero a b
  have tr := comp_ord.trans a b c
  have tri := comp_tri a b
  clear ma mb mc la lb lc ha hb hc
  generalize comp a b = x at *
  generalize comp b c = y at *
  generalize comp a c = z at *
  have HZ : Hid ((x = 0) ↔ (a = b)) := hz
  have TR := Hid.mk' tr
  have TRI : Hid (x = -1 ∨ x = 0 ∨ x = 1) := tri
  clear hz tr tri
  go_enter Tryd.func4, Tryd.ntmps4
  go_wp2_with fail
  refine (awake_any _).mono ?_
  rintro e w1 ⟨rfl, h1⟩
  have H1 := Hid.mk' h1
  clear h1
  go_wp2_with fail
  refine (KA.out _).mono ?_
  rintro e w2 ⟨rfl, rfl⟩
  go_wp2_with fail
  refine (KB.out _).mono ?_
  rintro e w2 ⟨rfl, rfl⟩
  go_wp2_with fail
  refine (KC.out _).mono ?_
  rintro e w2 ⟨rfl, rfl⟩
  go_wp2_with fail
  refine (AB.out _).mono ?_
  rintro e w2 ⟨rfl, h2⟩
  have H2 := Hid.mk' (bt H1.out h2)
  clear h2
  go_wp2_with fail
  refine (BC.out _).mono ?_
  rintro e w3 ⟨rfl, h3⟩
  have H3 := Hid.mk' (bt H2.out h3)
  clear h3
  go_wp2_with fail
  refine (AC.out _).mono ?_
  rintro e w4 ⟨rfl, h4⟩
  have H4 := Hid.mk' (bt H3.out h4)
  clear h4
  go_wp2_with fail
  refine (RAB.out _).mono ?_
  rintro e w5 ⟨rfl, h5⟩
  have H5 := Hid.mk' (bt H4.out h5)
  clear h5
  have hneg : IntKind.i64.wrap (-x) = -x := by rw [IntKind.wrap_i64]; have := TRI.out; omega
  go_wp2_with fail
  refine (BA.out _).mono ?_
  rintro e w6 ⟨rfl, h6⟩
  have H6 := Hid.mk' (bt H5.out h6)
  clear h6
  go_wp2_with fail
  refine (AA.out _).mono ?_
  rintro e w7 ⟨rfl, h7⟩
  have H7 := Hid.mk' (bt H6.out h7)
  clear h7
  have hq : ((x == 0) == (a == b)) = true := by
    have := HZ.out
    by_cases h : a = b
    · rw [this.2 h, h]; simp
    · have h' : x ≠ 0 := fun e => h (this.1 e)
      rw [show (x == 0) = false by simpa using h', show (a == b) = false by simpa using h]; rfl
  go_wp2_with fail
  all_goals go_ret
  all_goals exact ⟨ret_b (by have t1 := TR.out; first | (simp; done) | (simp; omega)), H7.out⟩
end Go.Proofs.YtahmihlpnlfefaaDoor
