/- Helpers for LockMirrors: an operation's value given outright; rows of ranges cut. -/
import Derived.Test.YteejlmeinndlhaaMS
import Derived.Test.YteejlmeinndlhaaGM
set_option linter.unusedVariables false
set_option linter.unusedSimpArgs false
namespace Go.Proofs.Yteejlmeinndlhaa
open Go.RowKit Go.Maps
section
variable {P : Program} {ops : Array Oper} {C : World → Prop} {Q : Act → World → Prop} {o : Oper} {rest : List Oper} {a : Act} {w : World}
/-- an operation that reads, its value given -/
theorem mx_val {u : Value} (hp : plainB o = true) (hw : Region.wanted o (yielded ops a.tmps) = true) (h : ∀ w', C w' → (execOp a.eval o).run P w' = .ok (.value u) w') (hn : wpMix P ops C Q rest (a.put o.dst u) w) : wpMix P ops C Q (o :: rest) a w := by
  show pmix P ops C o a w _
  unfold pmix
  rw [if_pos hw, if_pos hp]
  refine ⟨u, fun w' hC => ?_, hn⟩
  rw [h w' hC]
  exact ⟨rfl, rfl⟩
end
theorem eqd (x y : Tx) : decide (x = y) = decide (((x.1.toNat : Int) = y.1.toNat) ∧ ((x.2.1.toNat : Int) = y.2.1.toNat) ∧ ((x.2.2.toNat : Int) = y.2.2.toNat)) := by
  obtain ⟨a, b, c⟩ := x
  obtain ⟨a', b', c'⟩ := y
  rw [decide_eq_decide]
  simp only [Prod.mk.injEq, u64_ne]
  omega
theorem ne30 (x y : Tx) (w : World) : (binOp .neq 30 (tv x) (tv y)).run Try.prog w = .ok (.bool (!decide (x = y))) w := by
  rw [eqd]
  simp only [binOp]
  simp only [Op.equal, Op.maxDepth, tv, tc, List.toArray]
  have := eq30i 9998 x.1.toNat x.2.1.toNat x.2.2.toNat y.1.toNat y.2.1.toNat y.2.2.toNat w
  simp only [Sem.run_bind, Sem.run_map, this, Result.andThen]
  simp
theorem eqgt30 : Try.prog.eqGuardType Try.prog.depth 30 = false := by kernel_rfl
theorem exec_eq30 {w : World} {o : Oper} {a : Act} {p q : Operand} {x y : Tx} (ho : o.op = .binOp .eql 30 p q 30) (hp : a.eval p = tv x) (hq : a.eval q = tv y) : (execOp a.eval o).run Try.prog w = .ok (.value (.bool (decide (x = y)))) w := by
  have h := eq30 x y w
  have g : (eqGuard .eql 30 p q (tv x) (tv y)).run Try.prog w = .ok () w := run_eqGuard_agg _ .eql 30 p q _ _ eqgt30
  unfold execOp
  simp only [ho, hp, hq]
  simp only [Sem.run_bind, Sem.run_map, g, h, Result.andThen]
  rfl
theorem exec_ne30 {w : World} {o : Oper} {a : Act} {p q : Operand} {x y : Tx} (ho : o.op = .binOp .neq 30 p q 30) (hp : a.eval p = tv x) (hq : a.eval q = tv y) : (execOp a.eval o).run Try.prog w = .ok (.value (.bool (!decide (x = y)))) w := by
  have h := ne30 x y w
  have g : (eqGuard .neq 30 p q (tv x) (tv y)).run Try.prog w = .ok () w := run_eqGuard_agg _ .neq 30 p q _ _ eqgt30
  unfold execOp
  simp only [ho, hp, hq]
  simp only [Sem.run_bind, Sem.run_map, g, h, Result.andThen]
  rfl
theorem Try.size40 (w : World) : (sizeOf (Try.prog.elem 40)).run Try.prog w = .ok 3 w := by kernel_rfl
theorem s40_hio (w : World) (b o n c h : Nat) (h1 : h ≤ n) (h2 : n ≤ c) (h3 : 0 < c) : (Instr.slice 40 (.slice (some ⟨b, o, none⟩) n c) none (some (.int .i64 (h : Int))) none).run Try.prog w = .ok (.slice (some ⟨b, o, none⟩) h c) w := by
  rw [run_slice_h w 40 _ n c (by kernel_rfl) .i64 (h : Int) (by omega) (by omega), Try.size40]
  simp only [Result.andThen, Int.toNat_natCast, Go.sliced, Nat.sub_zero]
  rw [if_neg (by omega), Option.map_some, Nat.zero_mul, addr_add]; rfl
theorem Rgs.cut {A : Nat → Prop} {w : World} {a : Option Addr} {n c : Nat} {l : List Rg} (h : Rgs A w (.slice a n c) l) (m : Nat) (hm : m ≤ l.length) : Rgs A w (.slice a m c) (l.take m) := by
  obtain ⟨L, hL, hr, hq, hz⟩ := h
  have hl : L.length = l.length := by rw [← hL, List.length_map]
  have hn : n = L.length := by
    obtain ⟨_, a', c', hv, _⟩ := hr
    cases hv; rfl
  subst hn
  refine ⟨L.take m, by rw [List.map_take, hL], ?_, fun q hq' => hq q (List.mem_of_mem_take hq'), by rw [List.length_take]; omega⟩
  rw [show (L.take m).length = m by rw [List.length_take]; omega, ← rcs_take]
  exact hr.cutToN (by omega)
end Go.Proofs.Yteejlmeinndlhaa
