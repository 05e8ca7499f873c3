/- Walks: copies and comparisons of bytes. -/
import Derived.Test.YtojgkjpmphfakaaGreatDoorPN
set_option linter.unusedVariables false
set_option linter.unusedSimpArgs false
namespace Go.Proofs.YtojgkjpmphfakaaGreatDoor
open Go.RowKit
theorem eqn32 (w : World) (a : Option Addr) (n c : Nat) : Sem.run Tryz.prog (binOp BinOp.eql 69 (Value.slice a n c) (Value.slice none 0 0)) w = Result.ok (Value.bool a.isNone) w := Lib.run_eql_slice_nil (P := Tryz.prog) w 69 5 a n c 0 0 Tryz.underlying69

/-- append of bytes onto bytes of the call's own -/
theorem app32 {w : World} {ops : Array Oper} {rest : List Oper} {o : Oper} {a : Act} {Q : Exit → Act → World → Prop} (hgd : o.guard = none) (s x : Operand)
    (ho : o.op = .call { callee := .builtin .append, args := #[s, x], argTypes := #[69, 69] }) {B : Nat} {v : Value} {l : List UInt8} (hs : a.eval s = v) (hown : Ob 5 B w v l)
    {A : Nat → Prop} {u : Value} {m : List UInt8} (hx : a.eval x = u) (hsrc : Bs A w u m) (hlen : l.length + m.length ≤ lim) (hB : B ≤ w.heap.size)
    (h : ∀ v' w', Ob 5 B w' v' (l ++ m) → w.grownBy w' v.ownBlock → (v' = .slice none 0 0 ↔ v = .slice none 0 0 ∧ m.length = 0) → (v'.ownBlock = v.ownBlock ∨ v'.ownBlock = some w.heap.size) → wpList Tryz.prog ops Q rest (a.put o.dst v') w') :
    wpList Tryz.prog ops Q (o :: rest) a w := by
  unfold lim at hlen
  refine wpl_app hgd s x 69 ho Tryz.underlying69 Tryz.info5 rfl (by decide) hs hown hx hsrc.1 (bv_one m) (by unfold maxLen; omega) (by omega) hB fun v' w' h1 h2 h3 h4 => h v' w' ?_ h2 h3 h4
  unfold Ob
  rw [List.length_append, bv_append]
  exact h1

set_option maxHeartbeats 400000 in
/-- bytes.Clone -/
theorem clone_nil (w : World) : Calls Tryz.prog 55 #[.slice none 0 0] w fun e w' => e = .returned (.slice none 0 0) ∧ w = w' := by
  have h0 := eqn32
  go_enter Tryz.func55, Tryz.ntmps55
  go_wp2
  go_ret
  exact ⟨rfl, rfl⟩
set_option maxHeartbeats 400000 in
theorem clone_some {A : Nat → Prop} (p : Addr) (n c : Nat) (l : List UInt8) (w : World) (h : Bs A w (.slice (some p) n c) l) : Calls Tryz.prog 55 #[.slice (some p) n c] w (RetOb 5 w l) := by
  have h0 := eqn32
  have HL := h.2
  have H : Hid (Bs A w (.slice (some p) n c) l) := h
  clear h
  go_enter Tryz.func55, Tryz.ntmps55
  go_wp2_with (at_builtin; go_must (refine app32 rfl (.tmp 5) (.tmp 6) rfl rfl (ob_empty (Nat.le_refl _)) rfl (H.out.up (up_alloc _ _)) (by simpa using HL) (by simp) ?_); intro v' w1 ho hg hn hb; clear hn hb)
  go_ret
  exact ⟨v', rfl, below_app ((Below.refl _ _).alloc (Nat.le_refl _) _) (ob_empty (Nat.le_refl _)) hg (Nat.le_refl _) (by simp), by simpa using ho⟩
/-- byte by byte -/
def cmp : List UInt8 → List UInt8 → Int
  | [], [] => 0
  | [], _ :: _ => -1
  | _ :: _, [] => 1
  | x :: l, y :: m => if x.toNat < y.toNat then -1 else if y.toNat < x.toNat then 1 else cmp l m
theorem cmp_drop (l m : List UInt8) (i : Nat) (hi : i < l.length) (hm : i < m.length) : cmp (l.drop i) (m.drop i) = if (l[i].toNat : Int) < m[i].toNat then -1 else if (m[i].toNat : Int) < l[i].toNat then 1 else cmp (l.drop (i + 1)) (m.drop (i + 1)) := by
  rw [List.drop_eq_getElem_cons hi, List.drop_eq_getElem_cons hm, cmp]
  simp only [Int.ofNat_lt]
theorem cmp_end (l m : List UInt8) (i : Nat) (hi : i ≤ l.length) (hm : i ≤ m.length) (h : i = l.length ∨ i = m.length) : cmp (l.drop i) (m.drop i) = if (l.length : Int) < m.length then -1 else if (m.length : Int) < l.length then 1 else 0 := by
  rcases h with rfl | rfl
  · rw [List.drop_length]
    cases hd : m.drop l.length with
    | nil => have := List.drop_eq_nil_iff.1 hd; rw [cmp, if_neg (by omega), if_neg (by omega)]
    | cons y r => have : l.length < m.length := by have := congrArg List.length hd; simp at this; omega
                  rw [cmp, if_pos (by omega)]
  · rw [List.drop_length]
    cases hd : l.drop m.length with
    | nil => have := List.drop_eq_nil_iff.1 hd; rw [cmp, if_neg (by omega), if_neg (by omega)]
    | cons y r => have : m.length < l.length := by have := congrArg List.length hd; simp at this; omega
                  rw [cmp, if_neg (by omega), if_pos (by omega)]
theorem ret_i {k : IntKind} {a b : Int} (h : a = b) : Ending.returned (.int k a) = .returned (.int k b) := by rw [h]
end Go.Proofs.YtojgkjpmphfakaaGreatDoor
