/- Walks: copies and comparisons of bytes. -/
import Derived.Test.YtfmbbpfklhkljaaKit
import Derived.Test.YtfmbbpfklhkljaaRows
set_option linter.unusedVariables false
set_option linter.unusedSimpArgs false
namespace Go.Proofs.Ytfmbbpfklhkljaa
open Go.RowKit
theorem Try.info5 : (Try.prog.info? 5).map (fun i => (i.zero, i.size, i.bytes)) = some (some (.int .u8 0), 1, 1) := by kernel_rfl
theorem eqn32 (w : World) (a : Option Addr) (n c : Nat) : Sem.run Try.prog (binOp BinOp.eql 32 (Value.slice a n c) (Value.slice none 0 0)) w = Result.ok (Value.bool a.isNone) w := Lib.run_eql_slice_nil (P := Try.prog) w 32 5 a n c 0 0 Try.underlying32

/-- append of bytes onto bytes of the call's own -/
theorem app32 {w : World} {ops : Array Oper} {rest : List Oper} {o : Oper} {a : Act} {Q : Exit → Act → World → Prop} (hgd : o.guard = none) (s x : Operand)
    (ho : o.op = .call { callee := .builtin .append, args := #[s, x], argTypes := #[32, 32] }) {B : Nat} {v : Value} {l : List UInt8} (hs : a.eval s = v) (hown : Ob 5 B w v l)
    {A : Nat → Prop} {u : Value} {m : List UInt8} (hx : a.eval x = u) (hsrc : Bs A w u m) (hlen : l.length + m.length ≤ lim) (hB : B ≤ w.heap.size)
    (h : ∀ v' w', Ob 5 B w' v' (l ++ m) → w.grownBy w' v.ownBlock → (v' = .slice none 0 0 ↔ v = .slice none 0 0 ∧ m.length = 0) → (v'.ownBlock = v.ownBlock ∨ v'.ownBlock = some w.heap.size) → wpList Try.prog ops Q rest (a.put o.dst v') w') :
    wpList Try.prog ops Q (o :: rest) a w := by
  unfold lim at hlen
  refine wpl_app hgd s x 32 ho Try.underlying32 Try.info5 rfl (by decide) hs hown hx hsrc.1 (bv_one m) (by unfold maxLen; omega) (by omega) hB fun v' w' h1 h2 h3 h4 => h v' w' ?_ h2 h3 h4
  unfold Ob
  rw [List.length_append, bv_append]
  exact h1

set_option maxHeartbeats 400000 in
/-- bytes.Clone -/
theorem clone_nil (w : World) : Calls Try.prog 76 #[.slice none 0 0] w fun e w' => e = .returned (.slice none 0 0) ∧ w = w' := by
  have h0 := eqn32
  go_enter Try.func76, Try.ntmps76
  go_wp2
  go_ret
  exact ⟨rfl, rfl⟩
set_option maxHeartbeats 400000 in
theorem clone_some {A : Nat → Prop} (p : Addr) (n c : Nat) (l : List UInt8) (w : World) (h : Bs A w (.slice (some p) n c) l) : Calls Try.prog 76 #[.slice (some p) n c] w (RetOb 5 w l) := by
  have h0 := eqn32
  have HL := h.2
  have H : Hid (Bs A w (.slice (some p) n c) l) := h
  clear h
  go_enter Try.func76, Try.ntmps76
  go_wp2_with (at_builtin; go_must (refine app32 rfl (.tmp 5) (.tmp 6) rfl rfl (ob_empty (Nat.le_refl _)) rfl (H.out.up (up_alloc _ _)) (by simpa using HL) (by simp) ?_); intro v' w1 ho hg hn hb; clear hn hb)
  go_ret
  exact ⟨v', rfl, below_app ((Below.refl _ _).alloc (Nat.le_refl _) _) (ob_empty (Nat.le_refl _)) hg (Nat.le_refl _) (by simp), by simpa using ho⟩
set_option maxHeartbeats 400000 in
/-- groyneref01.Copy -/
theorem copy_any {A : Nat → Prop} (v : Value) (l : List UInt8) (w : World) (h : Bs A w v l) : Calls Try.prog 29 #[v] w (RetOb 5 w l) := by
  have HL := h.2
  have H : Hid (Bs A w v l) := h
  clear h
  go_enter Try.func29, Try.ntmps29
  go_wp2_with (at_builtin; go_must (refine app32 rfl (.tmp 3) (.tmp 4) rfl rfl (ob_empty (Nat.le_refl _)) rfl (H.out.up (up_alloc _ _)) (by simpa using HL) (by simp) ?_); intro v' w1 ho hg hn hb; clear hn hb)
  go_ret
  exact ⟨v', rfl, below_app ((Below.refl _ _).alloc (Nat.le_refl _) _) (ob_empty (Nat.le_refl _)) hg (Nat.le_refl _) (by simp), by simpa using ho⟩

/-- byte by byte -/
def cmp : List UInt8 → List UInt8 → Int
  | [], [] => 0
  | [], _ :: _ => -1
  | _ :: _, [] => 1
  | x :: l, y :: m => if x.toNat < y.toNat then -1 else if y.toNat < x.toNat then 1 else cmp l m
theorem cmp_drop (l m : List UInt8) (i : Nat) (hi : i < l.length) (hm : i < m.length) : cmp (l.drop i) (m.drop i) = if (l[i].toNat : Int) < m[i].toNat then -1 else if (m[i].toNat : Int) < l[i].toNat then 1 else cmp (l.drop (i + 1)) (m.drop (i + 1)) := by
  rw [List.drop_eq_getElem_cons hi, List.drop_eq_getElem_cons hm, cmp]
  simp only [Int.ofNat_lt]
theorem cmp_end (l m : List UInt8) (i : Nat) (hi : i ≤ l.length) (hm : i ≤ m.length) (h : i = l.length ∨ i = m.length) : cmp (l.drop i) (m.drop i) = if (l.length : Int) < m.length then -1 else if (m.length : Int) < l.length then 1 else 0 := by
  rcases h with rfl | rfl
  · rw [List.drop_length]
    cases hd : m.drop l.length with
    | nil => have := List.drop_eq_nil_iff.1 hd; rw [cmp, if_neg (by omega), if_neg (by omega)]
    | cons y r => have : l.length < m.length := by have := congrArg List.length hd; simp at this; omega
                  rw [cmp, if_pos (by omega)]
  · rw [List.drop_length]
    cases hd : l.drop m.length with
    | nil => have := List.drop_eq_nil_iff.1 hd; rw [cmp, if_neg (by omega), if_neg (by omega)]
    | cons y r => have : m.length < l.length := by have := congrArg List.length hd; simp at this; omega
                  rw [cmp, if_neg (by omega), if_pos (by omega)]
theorem ret_i {k : IntKind} {a b : Int} (h : a = b) : Ending.returned (.int k a) = .returned (.int k b) := by rw [h]
set_option maxHeartbeats 400000 in
/-- groyneref01.Cmp -/
theorem cmp_any {A A' : Nat → Prop} (v u : Value) (l m : List UInt8) (w : World) (h : Bs A w v l) (h' : Bs A' w u m) : Calls Try.prog 33 #[v, u] w fun e w' => e = .returned (.int .i64 (cmp l m)) ∧ Dn w w' := by
  have hl := h.2
  have hm := h'.2
  unfold lim at hl hm
  obtain ⟨a, c, rfl, hc, _, H⟩ := h.at
  obtain ⟨a', c', rfl, hc', _, H'⟩ := h'.at
  clear h h'
  have H : Hid _ := H
  have H' : Hid _ := H'
  go_enter Try.func33, Try.ntmps33
  go_wp2
  go_loopw [5] (fun i wr => ∃ k : Nat, k ≤ l.length ∧ k ≤ m.length ∧ i = .int .i64 k ∧ Dn w wr ∧ Hid (cmp l m = cmp (l.drop k) (m.drop k))) (fun i _ => l.length - (intOf i).toNat)
  case atStart => exact ⟨0, by omega, by omega, rfl, Dn.refl _, rfl⟩
  case round =>
    obtain ⟨k, hk, hk', rfl, ⟨n, rfl⟩, HC⟩ := hrel
    by_cases h1 : k < l.length
    · by_cases h2 : k < m.length
      · obtain ⟨b, o, rfl, _, hu⟩ := H.out k h1
        obtain ⟨b', o', rfl, _, hu'⟩ := H'.out k h2
        have hu0 : ∀ n, (w.drewN n).cell? ⟨b, o + k, none⟩ = some (.int .u8 (l[k].toNat : Int)) := fun n => hu
        have hu0' : ∀ n, (w.drewN n).cell? ⟨b', o' + k, none⟩ = some (.int .u8 (m[k].toNat : Int)) := fun n => hu'
        have hs := cmp_drop l m k h1 h2
        rw [← HC.out] at hs
        have hb1 : (0 : Int) ≤ (k : Int) := by omega
        have hb2 : (k : Int) < (l.length : Int) := by omega
        have hb3 : (k : Int) < (m.length : Int) := by omega
        generalize hx : (l[k].toNat : Int) = x at *
        generalize hy : (m[k].toNat : Int) = y at *
        clear hx hy
        have HS := Hid.mk' hs
        clear hs
        by_cases d1 : x < y
        · have e1 : decide (x < y) = true := by simpa using d1
          go_wp2
          go_quiet (fail)
          go_wp2
          go_ret
          exact ⟨ret_i (by rw [HS.out, if_pos (by omega)]), by repeat (first | exact Dn.refl _ | apply Dn.more)⟩
        · have e1 : decide (x < y) = false := by simpa using d1
          by_cases d2 : y < x
          · have e2 : decide (y < x) = true := by simpa using d2
            go_wp2
            go_quiet (fail)
            go_wp2
            go_quiet (fail)
            go_wp2
            go_ret
            exact ⟨ret_i (by rw [HS.out, if_neg (by omega), if_pos (by omega)]), by repeat (first | exact Dn.refl _ | apply Dn.more)⟩
          · have e2 : decide (y < x) = false := by simpa using d2
            go_wp2
            go_quiet (fail)
            go_wp2
            go_quiet (fail)
            go_wp2
            go_roundw
            case rel => exact ⟨k + 1, by omega, by omega, by go_num, (by repeat (first | exact Dn.refl _ | apply Dn.more)), by rw [HS.out, if_neg (by omega), if_neg (by omega)]; rfl⟩
            case measure => simp [intOf]; omega
      · have he := cmp_end l m k hk hk' (.inr (by omega))
        rw [← HC.out] at he
        have HE := Hid.mk' he
        clear he
        by_cases d1 : (l.length : Int) < m.length
        · go_wp2
          go_ret
          exact ⟨ret_i (by rw [HE.out, if_pos (by omega)]), by repeat (first | exact Dn.refl _ | apply Dn.more)⟩
        · by_cases d2 : (m.length : Int) < l.length
          · go_wp2
            go_ret
            exact ⟨ret_i (by rw [HE.out, if_neg (by omega), if_pos (by omega)]), by repeat (first | exact Dn.refl _ | apply Dn.more)⟩
          · go_wp2
            go_ret
            exact ⟨ret_i (by rw [HE.out, if_neg (by omega), if_neg (by omega)]), by repeat (first | exact Dn.refl _ | apply Dn.more)⟩
    · have he := cmp_end l m k hk hk' (.inl (by omega))
      rw [← HC.out] at he
      have HE := Hid.mk' he
      clear he
      by_cases d1 : (l.length : Int) < m.length
      · go_wp2
        go_ret
        exact ⟨ret_i (by rw [HE.out, if_pos (by omega)]), by repeat (first | exact Dn.refl _ | apply Dn.more)⟩
      · by_cases d2 : (m.length : Int) < l.length
        · go_wp2
          go_ret
          exact ⟨ret_i (by rw [HE.out, if_neg (by omega), if_pos (by omega)]), by repeat (first | exact Dn.refl _ | apply Dn.more)⟩
        · go_wp2
          go_ret
          exact ⟨ret_i (by rw [HE.out, if_neg (by omega), if_neg (by omega)]), by repeat (first | exact Dn.refl _ | apply Dn.more)⟩
end Go.Proofs.Ytfmbbpfklhkljaa
