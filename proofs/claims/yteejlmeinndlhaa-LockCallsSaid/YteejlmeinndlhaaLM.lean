/- Maps whose keys are transactions. -/
import Derived.Test.YteejlmeinndlhaaLT
import Derived.Test.YteejlmeinndlhaaCB
import Derived.DeepKeys5
set_option linter.unusedVariables false
set_option linter.unusedSimpArgs false
namespace Go.Proofs.Yteejlmeinndlhaa
open Go.RowKit
open Go.Maps (Keyed)
def tls (x : Tx) : List Lit := [.int .u64 (x.1.toNat : Int), .int .u64 (x.2.1.toNat : Int), .int .u64 (x.2.2.toNat : Int)]
/-- what a transaction reads as, as a key -/
def tkb (x : Tx) : List UInt8 := keyBytes (tls x)
theorem kt30 : Try.prog.keyType 30 = true := by kernel_rfl
theorem sz30 : ∃ m, Try.prog.types.size = m + 1 + 1 := ⟨Try.prog.types.size - 2, by kernel_rfl⟩
theorem c28 : Try.prog.cellsOf 28 = 1 := by kernel_rfl
theorem c30 : Try.prog.cellsOf 30 = 3 := by kernel_rfl
theorem keyLaw30 : WideMaps.KeyLaw Try.prog 30 := deep_law_gate Try.laidOut (of_decide_eq_true (by kernel_rfl)) (of_decide_eq_true (by kernel_rfl)) kt30 (by rw [Try.underlying30])
theorem K30 : Keyed Try.prog 30 := Keyed.of_law keyLaw30
theorem u64_wf (a : UInt64) : (Lit.int .u64 (a.toNat : Int)).wf = true := by
  have := a.toNat_lt
  have e1 : IntKind.u64.min = 0 := rfl
  have e2 : IntKind.u64.max = 18446744073709551615 := rfl
  simp only [Lit.wf, Bool.and_eq_true, decide_eq_true_eq, e1, e2]
  omega
theorem keyOf_tx (x : Tx) : keyOf Try.prog 30 (tv x) = some (.string (tkb x)) := by
  obtain ⟨m, hm⟩ := sz30
  have w1 := u64_wf x.1
  have w2 := u64_wf x.2.1
  have w3 := u64_wf x.2.2
  unfold keyOf
  simp only [Try.underlying30]
  rw [if_pos (by simp [kt30, Value.formed, Try.underlying30, c30, tv, tc]), hm]
  unfold Program.keyLits
  simp only [Try.underlying30, tv, tc, Value.cells]
  rw [if_pos (by rw [c30]; simp)]
  simp [Program.keyLits, Try.underlying28, c28, w1, w2, w3, tkb, tls]
theorem tv_inj {x y : Tx} (h : tv x = tv y) : x = y := by
  obtain ⟨a, b, c⟩ := x
  obtain ⟨a', b', c'⟩ := y
  simp [tv, tc] at h
  simp only [Prod.mk.injEq, u64_ne]
  omega
theorem tkb_inj {x y : Tx} (h : tkb x = tkb y) : x = y := by
  have h1 := keyOf_tx x
  rw [h] at h1
  exact tv_inj (keyLaw30.inj h1 (keyOf_tx y))
theorem u64_back {n : Int} (h : (Lit.int .u64 n).wf = true) : ∃ a : UInt64, n = (a.toNat : Int) := by
  have e1 : IntKind.u64.min = 0 := rfl
  have e2 : IntKind.u64.max = 18446744073709551615 := rfl
  simp only [Lit.wf, Bool.and_eq_true, decide_eq_true_eq, e1, e2] at h
  refine ⟨UInt64.ofNat n.toNat, ?_⟩
  have h2 : n.toNat < 18446744073709551616 := by
    omega
  rw [UInt64.toNat_ofNat', Nat.mod_eq_of_lt (by simpa using h2)]
  omega
theorem kl28 {m : Nat} {c : Value} {L : List Lit} (h : Try.prog.keyLits (m + 1) 28 [c] = some L) : ∃ a : UInt64, c = .int .u64 (a.toNat : Int) ∧ L = [.int .u64 (a.toNat : Int)] := by
  unfold Program.keyLits at h
  simp only [Try.underlying28] at h
  cases c with
  | int q n =>
    simp only at h
    split at h
    · rename_i hc
      obtain ⟨rfl, hw⟩ := hc
      obtain ⟨a, rfl⟩ := u64_back hw
      cases h
      exact ⟨a, rfl, rfl⟩
    · cases h
  | _ => simp at h
/-- whatever reads as a key is a transaction -/
theorem keyOf_inv {v : Value} {l : Lit} (h : keyOf Try.prog 30 v = some l) : ∃ x : Tx, v = tv x ∧ l = .string (tkb x) := by
  obtain ⟨xs, L, rfl, hl, rfl⟩ := keyOf_top (by rw [Try.underlying30]) h
  obtain ⟨m, hm⟩ := sz30
  rw [hm] at hl
  unfold Program.keyLits at hl
  simp only [Try.underlying30] at hl
  split at hl
  · rename_i hc
    rw [c30] at hc
    have hlen := hc.1
    match hx : xs.toList, hlen with
    | [c0, c1, c2], _ =>
      rw [hx] at hl
      simp only [Option.map_eq_some_iff] at hl
      obtain ⟨LL, hm2, rfl⟩ := hl
      simp only [List.mapM_cons, List.mapM_nil, c28, List.drop_zero, List.take_succ_cons, List.take_zero, List.drop_succ_cons, Option.bind_eq_bind, Option.pure_def, Option.bind_eq_some_iff, Option.some.injEq] at hm2
      obtain ⟨a0, h0, a1, ⟨b0, k0, b1, ⟨d0, g0, d1, rfl, rfl⟩, rfl⟩, rfl⟩ := hm2
      obtain ⟨x0, rfl, rfl⟩ := kl28 h0
      obtain ⟨x1, rfl, rfl⟩ := kl28 k0
      obtain ⟨x2, rfl, rfl⟩ := kl28 g0
      refine ⟨(x0, x1, x2), ?_, rfl⟩
      have hxs : xs = #[.int .u64 (x0.toNat : Int), .int .u64 (x1.toNat : Int), .int .u64 (x2.toNat : Int)] := Array.toList_inj.1 hx
      rw [hxs]
      rfl
  · cases hl
end Go.Proofs.Yteejlmeinndlhaa
