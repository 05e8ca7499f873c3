/- groyneref01: Copy, Cmp, Equal, Over, Spare, Kept, Apart; bytes.Clone. -/
import Derived.Test.YtbmhkdcmepfmbaaGreatB03
import Derived.Test.YtbmhkdcmepfmbaaGreatRows
import Derived.BigRegion
import Derived.StillTailTactics
set_option linter.unusedVariables false
set_option linter.unusedSimpArgs false
namespace Go.Proofs.YtbmhkdcmepfmbaaGreat
open Go.RowKit
theorem Tryz.info5 : (Tryz.prog.info? 5).map (fun i => (i.zero, i.size, i.bytes)) = some (some (.int .u8 0), 1, 1) := by kernel_rfl
theorem eqn32 (w : World) (a : Option Addr) (n c : Nat) : Sem.run Tryz.prog (binOp BinOp.eql 22 (Value.slice a n c) (Value.slice none 0 0)) w = Result.ok (Value.bool a.isNone) w := Lib.run_eql_slice_nil (P := Tryz.prog) w 22 5 a n c 0 0 Tryz.underlying22
/-- append of bytes onto bytes of the call's own -/
theorem app32 {w : World} {ops : Array Oper} {rest : List Oper} {o : Oper} {a : Act} {Q : Exit → Act → World → Prop} (hgd : o.guard = none) (s x : Operand)
    (ho : o.op = .call { callee := .builtin .append, args := #[s, x], argTypes := #[22, 22] }) {B : Nat} {v : Value} {l : List UInt8} (hs : a.eval s = v) (hown : Ob 5 B w v l)
    {A : Nat → Prop} {u : Value} {m : List UInt8} (hx : a.eval x = u) (hsrc : Bs A w u m) (hlen : l.length + m.length ≤ lim) (hB : B ≤ w.heap.size)
    (h : ∀ v' w', Ob 5 B w' v' (l ++ m) → w.grownBy w' v.ownBlock → (v' = .slice none 0 0 ↔ v = .slice none 0 0 ∧ m.length = 0) → (v'.ownBlock = v.ownBlock ∨ v'.ownBlock = some w.heap.size) → wpList Tryz.prog ops Q rest (a.put o.dst v') w') :
    wpList Tryz.prog ops Q (o :: rest) a w := by
  unfold lim at hlen
  refine wpl_app hgd s x 22 ho Tryz.underlying22 Tryz.info5 rfl (by decide) hs hown hx hsrc.1 (bv_one m) (by unfold maxLen; omega) (by omega) hB fun v' w' h1 h2 h3 h4 => h v' w' ?_ h2 h3 h4
  unfold Ob
  rw [List.length_append, bv_append]
  exact h1
set_option maxHeartbeats 400000 in
/-- bytes.Clone -/
theorem clone_nil (w : World) : Calls Tryz.prog 35 #[.slice none 0 0] w fun e w' => e = .returned (.slice none 0 0) ∧ w = w' := by
  have h0 := eqn32
  go_enter Tryz.func35, Tryz.ntmps35
  go_wp2
  go_ret
  exact ⟨rfl, rfl⟩
set_option maxHeartbeats 400000 in
theorem clone_some {A : Nat → Prop} (p : Addr) (n c : Nat) (l : List UInt8) (w : World) (h : Bs A w (.slice (some p) n c) l) : Calls Tryz.prog 35 #[.slice (some p) n c] w (RetOb 5 w l) := by
  have h0 := eqn32
  have HL := h.2
  have H : Hid (Bs A w (.slice (some p) n c) l) := h
  clear h
  go_enter Tryz.func35, Tryz.ntmps35
  go_wp2_with (at_builtin; go_must (refine app32 rfl (.tmp 5) (.tmp 6) rfl rfl (ob_empty (Nat.le_refl _)) rfl (H.out.up (up_alloc _ _)) (by simpa using HL) (by simp) ?_); intro v' w1 ho hg hn hb; clear hn hb)
  go_ret
  exact ⟨v', rfl, below_app ((Below.refl _ _).alloc (Nat.le_refl _) _) (ob_empty (Nat.le_refl _)) hg (Nat.le_refl _) (by simp), by simpa using ho⟩
set_option maxHeartbeats 400000 in
/-- groyneref01.Copy -/
theorem copy_any {A : Nat → Prop} (v : Value) (l : List UInt8) (w : World) (h : Bs A w v l) : Calls Tryz.prog 16 #[v] w (RetOb 5 w l) := by
  have HL := h.2
  have H : Hid (Bs A w v l) := h
  clear h
  go_enter Tryz.func16, Tryz.ntmps16
  go_wp2_with (at_builtin; go_must (refine app32 rfl (.tmp 3) (.tmp 4) rfl rfl (ob_empty (Nat.le_refl _)) rfl (H.out.up (up_alloc _ _)) (by simpa using HL) (by simp) ?_); intro v' w1 ho hg hn hb; clear hn hb)
  go_ret
  exact ⟨v', rfl, below_app ((Below.refl _ _).alloc (Nat.le_refl _) _) (ob_empty (Nat.le_refl _)) hg (Nat.le_refl _) (by simp), by simpa using ho⟩
/-- byte by byte -/
def cmp : List UInt8 → List UInt8 → Int
  | [], [] => 0
  | [], _ :: _ => -1
  | _ :: _, [] => 1
  | x :: l, y :: m => if x.toNat < y.toNat then -1 else if y.toNat < x.toNat then 1 else cmp l m
theorem cmp_drop (l m : List UInt8) (i : Nat) (hi : i < l.length) (hm : i < m.length) : cmp (l.drop i) (m.drop i) = if (l[i].toNat : Int) < m[i].toNat then -1 else if (m[i].toNat : Int) < l[i].toNat then 1 else cmp (l.drop (i + 1)) (m.drop (i + 1)) := by
  rw [List.drop_eq_getElem_cons hi, List.drop_eq_getElem_cons hm, cmp]
  simp only [Int.ofNat_lt]
theorem cmp_end (l m : List UInt8) (i : Nat) (hi : i ≤ l.length) (hm : i ≤ m.length) (h : i = l.length ∨ i = m.length) : cmp (l.drop i) (m.drop i) = if (l.length : Int) < m.length then -1 else if (m.length : Int) < l.length then 1 else 0 := by
  rcases h with rfl | rfl
  · rw [List.drop_length]
    cases hd : m.drop l.length with
    | nil => have := List.drop_eq_nil_iff.1 hd; rw [cmp, if_neg (by omega), if_neg (by omega)]
    | cons y r => have : l.length < m.length := by have := congrArg List.length hd; simp at this; omega
                  rw [cmp, if_pos (by omega)]
  · rw [List.drop_length]
    cases hd : l.drop m.length with
    | nil => have := List.drop_eq_nil_iff.1 hd; rw [cmp, if_neg (by omega), if_neg (by omega)]
    | cons y r => have : m.length < l.length := by have := congrArg List.length hd; simp at this; omega
                  rw [cmp, if_neg (by omega), if_pos (by omega)]
theorem ret_i {k : IntKind} {a b : Int} (h : a = b) : Ending.returned (.int k a) = .returned (.int k b) := by rw [h]
set_option maxHeartbeats 400000 in
/-- groyneref01.Cmp -/
theorem cmp_any {A A' : Nat → Prop} (v u : Value) (l m : List UInt8) (w : World) (h : Bs A w v l) (h' : Bs A' w u m) : Calls Tryz.prog 45 #[v, u] w fun e w' => e = .returned (.int .i64 (cmp l m)) ∧ Dn w w' := by
  have hl := h.2
  have hm := h'.2
  unfold lim at hl hm
  obtain ⟨a, c, rfl, hc, _, H⟩ := h.at
  obtain ⟨a', c', rfl, hc', _, H'⟩ := h'.at
  clear h h'
  have H : Hid _ := H
  have H' : Hid _ := H'
  go_enter Tryz.func45, Tryz.ntmps45
  go_wp2
  go_loopw [5] (fun i wr => ∃ k : Nat, k ≤ l.length ∧ k ≤ m.length ∧ i = .int .i64 k ∧ Dn w wr ∧ Hid (cmp l m = cmp (l.drop k) (m.drop k))) (fun i _ => l.length - (intOf i).toNat)
  case atStart => exact ⟨0, by omega, by omega, rfl, Dn.refl _, rfl⟩
  case round =>
    obtain ⟨k, hk, hk', rfl, ⟨n, rfl⟩, HC⟩ := hrel
    by_cases h1 : k < l.length
    · by_cases h2 : k < m.length
      · obtain ⟨b, o, rfl, _, hu⟩ := H.out k h1
        obtain ⟨b', o', rfl, _, hu'⟩ := H'.out k h2
        have hu0 : ∀ n, (w.drewN n).cell? ⟨b, o + k, none⟩ = some (.int .u8 (l[k].toNat : Int)) := fun n => hu
        have hu0' : ∀ n, (w.drewN n).cell? ⟨b', o' + k, none⟩ = some (.int .u8 (m[k].toNat : Int)) := fun n => hu'
        have hs := cmp_drop l m k h1 h2
        rw [← HC.out] at hs
        have hb1 : (0 : Int) ≤ (k : Int) := by omega
        have hb2 : (k : Int) < (l.length : Int) := by omega
        have hb3 : (k : Int) < (m.length : Int) := by omega
        generalize hx : (l[k].toNat : Int) = x at *
        generalize hy : (m[k].toNat : Int) = y at *
        clear hx hy
        have HS := Hid.mk' hs
        clear hs
        by_cases d1 : x < y
        · have e1 : decide (x < y) = true := by simpa using d1
          go_wp2
          go_quiet (fail)
          go_wp2
          go_ret
          exact ⟨ret_i (by rw [HS.out, if_pos (by omega)]), by repeat (first | exact Dn.refl _ | apply Dn.more)⟩
        · have e1 : decide (x < y) = false := by simpa using d1
          by_cases d2 : y < x
          · have e2 : decide (y < x) = true := by simpa using d2
            go_wp2
            go_quiet (fail)
            go_wp2
            go_quiet (fail)
            go_wp2
            go_ret
            exact ⟨ret_i (by rw [HS.out, if_neg (by omega), if_pos (by omega)]), by repeat (first | exact Dn.refl _ | apply Dn.more)⟩
          · have e2 : decide (y < x) = false := by simpa using d2
            go_wp2
            go_quiet (fail)
            go_wp2
            go_quiet (fail)
            go_wp2
            go_roundw
            case rel => exact ⟨k + 1, by omega, by omega, by go_num, (by repeat (first | exact Dn.refl _ | apply Dn.more)), by rw [HS.out, if_neg (by omega), if_neg (by omega)]; rfl⟩
            case measure => simp [intOf]; omega
      · have he := cmp_end l m k hk hk' (.inr (by omega))
        rw [← HC.out] at he
        have HE := Hid.mk' he
        clear he
        by_cases d1 : (l.length : Int) < m.length
        · go_wp2
          go_ret
          exact ⟨ret_i (by rw [HE.out, if_pos (by omega)]), by repeat (first | exact Dn.refl _ | apply Dn.more)⟩
        · by_cases d2 : (m.length : Int) < l.length
          · go_wp2
            go_ret
            exact ⟨ret_i (by rw [HE.out, if_neg (by omega), if_pos (by omega)]), by repeat (first | exact Dn.refl _ | apply Dn.more)⟩
          · go_wp2
            go_ret
            exact ⟨ret_i (by rw [HE.out, if_neg (by omega), if_neg (by omega)]), by repeat (first | exact Dn.refl _ | apply Dn.more)⟩
    · have he := cmp_end l m k hk hk' (.inl (by omega))
      rw [← HC.out] at he
      have HE := Hid.mk' he
      clear he
      by_cases d1 : (l.length : Int) < m.length
      · go_wp2
        go_ret
        exact ⟨ret_i (by rw [HE.out, if_pos (by omega)]), by repeat (first | exact Dn.refl _ | apply Dn.more)⟩
      · by_cases d2 : (m.length : Int) < l.length
        · go_wp2
          go_ret
          exact ⟨ret_i (by rw [HE.out, if_neg (by omega), if_pos (by omega)]), by repeat (first | exact Dn.refl _ | apply Dn.more)⟩
        · go_wp2
          go_ret
          exact ⟨ret_i (by rw [HE.out, if_neg (by omega), if_neg (by omega)]), by repeat (first | exact Dn.refl _ | apply Dn.more)⟩
theorem cmp_zero : ∀ (a b : List UInt8), cmp a b = 0 ↔ a = b
  | [], [] => by simp [cmp]
  | [], _ :: _ => by simp [cmp]
  | _ :: _, [] => by simp [cmp]
  | x :: a, y :: b => by
    rw [cmp]
    by_cases h1 : x.toNat < y.toNat
    · rw [if_pos h1]; simp; rintro rfl; omega
    · rw [if_neg h1]
      by_cases h2 : y.toNat < x.toNat
      · rw [if_pos h2]; simp; rintro rfl; omega
      · rw [if_neg h2, cmp_zero a b]
        have : x = y := UInt8.toNat_inj.1 (by omega)
        simp [this]
set_option maxHeartbeats 400000 in
/-- groyneref01.Equal -/
theorem requal_any {A A' : Nat → Prop} (v u : Value) (l m : List UInt8) (w : World) (h : Bs A w v l) (h' : Bs A' w u m) : Calls Tryz.prog 19 #[v, u] w fun e w' => e = .returned (.bool (l == m)) ∧ Dn w w' := by
  have HC := Hid.mk' (cmp_any v u l m w h h')
  have HZ : Hid ((cmp l m == 0) = (l == m)) := by
    show _ = _
    rw [Bool.eq_iff_iff]; simp [cmp_zero]
  clear h h'
  go_enter Tryz.func19, Tryz.ntmps19
  go_wp2_with fail
  refine HC.out.mono ?_
  rintro e w' ⟨rfl, hd⟩
  have HD := Hid.mk' hd
  clear hd
  go_wp2_with fail
  go_ret
  exact ⟨ret_b HZ.out, HD.out⟩
theorem clone_any {A : Nat → Prop} (v : Value) (l : List UInt8) (w : World) (h : Bs A w v l) : Calls Tryz.prog 35 #[v] w (RetOb 5 w l) := by
  have h0 := h
  obtain ⟨a, c, rfl, hc, ha, H⟩ := h0.at
  cases a with
  | none =>
    have hc0 := ha rfl
    have hl : l = [] := List.eq_nil_of_length_eq_zero (by omega)
    subst hc0; subst hl
    refine (clone_nil w).mono ?_
    rintro e w' ⟨rfl, rfl⟩
    exact ⟨_, rfl, Below.refl _ _, ob_nil⟩
  | some p => exact clone_some p _ c l w h
theorem Tryz.info22 : (Tryz.prog.info? 22).map (fun i => (i.zero, i.size, i.bytes)) = some (some (.slice none 0 0), 1, 24) := by kernel_rfl
def ovr (n : Nat) (l : List UInt8) : List UInt8 := (l.take n).map (fun x => x ^^^ 255) ++ l.drop n
theorem ovr_len (n : Nat) (l : List UInt8) : (ovr n l).length = l.length := by simp [ovr]; have := Nat.min_le_left n l.length; omega
theorem ovr_zero (l : List UInt8) : ovr 0 l = l := by simp [ovr]
theorem ovr_get (n : Nat) (l : List UInt8) (h : n < l.length) : (ovr n l)[n]'(by rw [ovr_len]; exact h) = l[n] := by
  unfold ovr
  rw [List.getElem_append_right (by simp; exact Nat.min_le_left _ _)]
  simp
  congr 1; omega
theorem ovr_set (n : Nat) (l : List UInt8) (h : n < l.length) : (ovr n l).set n (l[n] ^^^ 255) = ovr (n + 1) l := by
  unfold ovr
  rw [List.take_succ_eq_append_getElem h, List.map_append, List.set_append_right _ _ (by simp; exact Nat.min_le_left _ _)]
  have : n - ((l.take n).map fun x => x ^^^ 255).length = 0 := by simp; omega
  rw [this, List.drop_eq_getElem_cons h, List.set_cons_zero, List.append_assoc]; rfl
theorem xr (x : UInt8) : bits BinOp.xor .u8 (x.toNat : Int) 255 = ((x ^^^ 255).toNat : Int) := by
  have h : ∀ n : Fin 256, bits BinOp.xor .u8 ((UInt8.ofNat n.val).toNat : Int) 255 = ((UInt8.ofNat n.val ^^^ 255).toNat : Int) := by decide +kernel
  have := h ⟨x.toNat, x.toNat_lt⟩
  simpa using this
set_option maxRecDepth 100000 in
set_option maxHeartbeats 1000000 in
/-- groyneref01.Over -/
theorem over_pre {B g n c C : Nat} {w : World} {l : List UInt8} (h : Ob 5 B w (.slice (some ⟨g, 0, none⟩) l.length C) l) (hn : n ≤ l.length) (hz : l.length ≤ lim) :
    Calls Tryz.prog 17 #[.slice (some ⟨g, 0, none⟩) n c] w fun e w' => e = .returned (.tuple #[]) ∧ Ob 5 B w' (.slice (some ⟨g, 0, none⟩) l.length C) (ovr n l) ∧ Wb (fun k => k = g) w w' := by
  have HZ : (n : Int) ≤ 140737488351232 := by unfold lim at hz; omega
  have HN := Hid.mk' hn
  have HO : Hid (Ob 5 B w (.slice (some ⟨g, 0, none⟩) l.length C) (ovr 0 l)) := by rw [ovr_zero]; exact h
  clear h hn hz
  go_enter Tryz.func17, Tryz.ntmps17
  go_wp2
  go_loopw [2] (fun i wr => ∃ k : Nat, k ≤ n ∧ i = .int .i64 k ∧ Hid (Ob 5 B wr (.slice (some ⟨g, 0, none⟩) l.length C) (ovr k l)) ∧ Hid (Wb (fun k => k = g) w wr)) (fun i _ => n - (intOf i).toNat)
  case atStart => exact ⟨0, by omega, rfl, HO, Wb.refl _ _⟩
  case round =>
    clear HO
    obtain ⟨k, hk, rfl, HO, HW⟩ := hrel
    by_cases hlt : k < n
    · have hkl : k < l.length := Nat.lt_of_lt_of_le hlt HN.out
      have hc := HO.out.cell k (by rw [ovr_len]; exact hkl)
      rw [ovr_get k l hkl] at hc
      have hf := HO.out.frozen k
      have hx := xr l[k]
      have HO2 := Hid.mk' (HO.out.set k (l[k] ^^^ 255))
      rw [ovr_set k l hkl] at HO2
      have HW2 := Hid.mk' (HW.out.trans (Wb.set (X := fun k => k = g) wr g k (.int .u8 ((l[k] ^^^ 255).toNat : Int)) rfl))
      generalize (l[k] ^^^ 255) = y at *
      generalize l[k] = x at *
      go_wp2
      go_roundw
      case rel => exact ⟨k + 1, by omega, by go_num, HO2, HW2⟩
      case measure => simp [intOf]; omega
    · obtain rfl : k = n := by omega
      go_wp2
      go_end0
      exact ⟨rfl, HO.out, HW.out⟩
/-- groyneref01.Over of what is the call's own -/
theorem over_any {B : Nat} {w : World} {v : Value} {l : List UInt8} (h : Ob 5 B w v l) (hz : l.length ≤ lim) :
    Calls Tryz.prog 17 #[v] w fun e w' => e = .returned (.tuple #[]) ∧ Ob 5 B w' v (ovr l.length l) ∧ Wb (fun k => v.ownBlock = some k) w w' := by
  by_cases h0 : 0 < l.length
  · obtain ⟨g, C, rfl⟩ := h.form h0
    exact (over_pre h (Nat.le_refl _) hz).mono fun e w' ⟨h1, h2, h3⟩ => ⟨h1, h2, h3.mono fun k hk => by subst hk; rfl⟩
  · have : l = [] := List.eq_nil_of_length_eq_zero (by omega)
    subst this
    obtain ⟨a, c, rfl⟩ := own_slice h
    have H := Hid.mk' h
    clear h h0 hz
    simp only [List.length_nil]
    go_enter Tryz.func17, Tryz.ntmps17
    go_wp2
    go_loopw [2] (fun i wr => i = .int .i64 0 ∧ Eqw w wr) (fun i _ => 0)
    case atStart => exact ⟨rfl, rfl⟩
    case round =>
      obtain ⟨rfl, rfl⟩ := hrel
      go_wp2
      go_end0
      exact ⟨rfl, H.out, Wb.refl _ _⟩
theorem is_free {P : Program} {f : FuncId} {args : Array Value} {w : World} {v : Value} (h : Calls P f args w fun e w' => e = .returned v ∧ Below w.heap.size w w') : Calls P f args w fun e w'' => ∃ u, e = .returned u ∧ Up w w'' ∧ (UL.is v).1.one u ∧ (UL.is v).1.led u w'' :=
  h.mono fun _ _ ⟨h1, h2⟩ => ⟨v, h1, h2, rfl, trivial⟩
theorem is_free_dn {P : Program} {f : FuncId} {args : Array Value} {w : World} {v : Value} (h : Calls P f args w fun e w' => e = .returned v ∧ Dn w w') : Calls P f args w fun e w'' => ∃ u, e = .returned u ∧ Up w w'' ∧ (UL.is v).1.one u ∧ (UL.is v).1.led u w'' :=
  h.mono fun _ _ ⟨h1, h2⟩ => ⟨v, h1, h2.below _, rfl, trivial⟩
theorem is_free' {P : Program} {f : FuncId} {args : Array Value} {w : World} {v : Value} (h : Calls P f args w fun e w' => e = .returned v ∧ w = w') : Calls P f args w fun e w'' => ∃ u, e = .returned u ∧ Up w w'' ∧ (UL.is v).1.one u ∧ (UL.is v).1.led u w'' :=
  h.mono fun _ _ ⟨h1, h2⟩ => ⟨v, h1, by subst h2; exact Below.refl _ _, rfl, trivial⟩
def tnt (i : Nat) : UInt8 := UInt8.ofNat (81 + 7 * (i % 31))
def stm (i k : Nat) : UInt8 := UInt8.ofNat (3 * i + 11 * k + 1)
set_option maxRecDepth 100000 in
theorem tint_any (w : World) (i : Nat) (hi : i ≤ 1000000000000) : Calls Tryz.prog 33 #[.int .i64 i] w fun e w' => e = .returned (.int .u8 ((tnt i).toNat : Int)) ∧ w = w' := by
  have h1 : (i : Int) ≤ 1000000000000 := by omega
  have t1 := Int.emod_lt_of_pos (i : Int) (b := 31) (by omega)
  have t2 := Int.emod_nonneg (i : Int) (b := 31) (by omega)
  have hT : Hid ((tnt i).toNat = (81 + 7 * (i % 31)) % 256) := by show _ = _; unfold tnt; rw [UInt8.toNat_ofNat']
  go_enter Tryz.func33, Tryz.ntmps33
  go_wp2_with fail
  go_ret
  refine ⟨?_, rfl⟩
  show Ending.returned (.int .u8 _) = _
  congr 2
set_option maxRecDepth 100000 in
theorem stamp_any (w : World) (i k : Nat) (hi : i ≤ 1000000000000) (hk : k ≤ 1000000000000) : Calls Tryz.prog 46 #[.int .i64 i, .int .i64 k] w fun e w' => e = .returned (.int .u8 ((stm i k).toNat : Int)) ∧ w = w' := by
  have h1 : (i : Int) ≤ 1000000000000 := by omega
  have h2 : (k : Int) ≤ 1000000000000 := by omega
  have hT : Hid ((stm i k).toNat = (3 * i + 11 * k + 1) % 256) := by show _ = _; unfold stm; rw [UInt8.toNat_ofNat']
  go_enter Tryz.func46, Tryz.ntmps46
  go_wp2_with fail
  go_ret
  refine ⟨?_, rfl⟩
  show Ending.returned (.int .u8 _) = _
  congr 2
/-- what Spare lays at a place -/
def sp1 (l : List UInt8) (j : Nat) : UInt8 := if j < l.length then l.getD j 0 else tnt j
def spr (l : List UInt8) (k : Nat) : List UInt8 := (List.range (l.length + 33)).map fun j => if j < k then sp1 l j else 0
def full (l : List UInt8) : List UInt8 := (List.range (l.length + 33)).map (sp1 l)
theorem spr_len (l : List UInt8) (k : Nat) : (spr l k).length = l.length + 33 := by simp [spr]
theorem full_len (l : List UInt8) : (full l).length = l.length + 33 := by simp [full]
theorem spr_zero (l : List UInt8) : spr l 0 = List.replicate (l.length + 33) 0 := by
  apply List.ext_getElem
  · simp [spr]
  · intro i h1 h2; simp [spr]
theorem spr_end (l : List UInt8) : spr l (l.length + 33) = full l := by
  unfold spr full
  refine List.map_congr_left fun j hj => ?_
  rw [if_pos (by simpa using hj)]
theorem spr_set (l : List UInt8) (k : Nat) (x : UInt8) (hx : x = sp1 l k) : (spr l k).set k x = spr l (k + 1) := by
  apply List.ext_getElem
  · simp [spr]
  · intro i h1 h2
    simp only [spr, List.getElem_set, List.getElem_map, List.getElem_range]
    by_cases hi : k = i
    · subst hi; rw [if_pos rfl, if_pos (by omega), hx]
    · rw [if_neg hi]
      by_cases hl : i < k
      · rw [if_pos hl, if_pos (by omega)]
      · rw [if_neg hl, if_neg (by omega)]
theorem sp_take (l : List UInt8) : (full l).take l.length = l := by
  apply List.ext_getElem
  · simp [full]
  · intro i h1 h2
    simp only [full, List.getElem_take, List.getElem_map, List.getElem_range, sp1]
    rw [if_pos h2, List.getD_eq_getElem?_getD, List.getElem?_eq_getElem h2]; rfl
set_option maxRecDepth 100000 in
set_option maxHeartbeats 2000000 in
/-- groyneref01.Spare -/
theorem spare_any {A : Nat → Prop} {w : World} {v : Value} {l : List UInt8} (h : Bs A w v l) (hl : l.length ≤ 1000000) : Calls Tryz.prog 11 #[v] w fun e w' => e = .returned (.tuple #[.slice (some ⟨w.heap.size, 0, none⟩) l.length (l.length + 33), .slice (some ⟨w.heap.size, 0, none⟩) (l.length + 33) (l.length + 33)]) ∧ Ob 5 w.heap.size w' (.slice (some ⟨w.heap.size, 0, none⟩) (l.length + 33) (l.length + 33)) (full l) ∧ Below w.heap.size w w' := by
  obtain ⟨a, c, rfl, hc, hn, H⟩ := h.at
  have HH := Hid.mk' h
  have H0 := Hid.mk' H
  clear h H
  have hmk := run_mk (P := Tryz.prog) 22 Tryz.underlying22 (by kernel_rfl) (l.length + 33) (by unfold lim; omega) w
  have hmk : (Instr.makeSlice 22 (.int .i64 ((l.length : Int) + 33)) (.int .i64 ((l.length : Int) + 33))).run Tryz.prog w = .ok (.slice (some ⟨w.heap.size, 0, none⟩) (l.length + 33) (l.length + 33)) (w.alloc (.cells (zeros (l.length + 33)) 5)) := hmk
  have hl1 : (l.length : Int) ≤ 1000000 := by omega
  go_enter Tryz.func11, Tryz.ntmps11
  go_wp2_with fail
  obtain ⟨W, hW⟩ : ∃ W, W = w.alloc (.cells (zeros (l.length + 33)) 5) := ⟨_, rfl⟩
  have O0 : Hid (Ob 5 w.heap.size W (.slice (some ⟨w.heap.size, 0, none⟩) (l.length + 33) (l.length + 33)) (spr l 0)) := by
    rw [spr_zero, hW]; exact ob_zeros _ (by unfold lim; omega) w 5
  have B0 : Hid (Below w.heap.size w W) := by rw [hW]; exact up_alloc _ _
  rw [← hW]
  clear hW hmk
  go_loopw [5] (fun i wr => ∃ k : Nat, k ≤ l.length + 33 ∧ i = .int .i64 k ∧ Hid (Below w.heap.size w wr) ∧ Hid (Ob 5 w.heap.size wr (.slice (some ⟨w.heap.size, 0, none⟩) (l.length + 33) (l.length + 33)) (spr l k))) (fun i _ => l.length + 33 - (intOf i).toNat)
  case atStart => exact ⟨0, by omega, rfl, B0, O0⟩
  case round =>
    obtain ⟨k, hk, rfl, HB, HO⟩ := hrel
    by_cases hlt : k < l.length + 33
    · have hlt' : (k : Int) < (l.length : Int) + 33 := by omega
      have hb := HO.out.cell k (by rw [spr_len]; exact hlt)
      have hf := HO.out.frozen k
      have HT := Hid.mk' (tint_any wr k (by omega))
      go_wp2_with fail
      refine HT.out.mono ?_
      rintro e w2 ⟨rfl, rfl⟩
      have HO1 := Hid.mk' (HO.out.set k (tnt k))
      have hs1 : Below w.heap.size wr (wr.setCell ⟨w.heap.size, k, none⟩ (.int .u8 ((tnt k).toNat : Int))) := (Wb.set (X := fun j => j = w.heap.size) wr w.heap.size k _ rfl).below HB.out.size fun j hj => by subst hj; exact Nat.le_refl _
      have HB1 := Hid.mk' (HB.out.trans hs1)
      clear hs1 HT
      by_cases hin : k < l.length
      · have hin' : (k : Int) < (l.length : Int) := by omega
        obtain ⟨b, o, ha, _, hu⟩ := H0.out k hin
        subst ha
        have hu1 := cell_later HB1.out hu
        have hb1 := HO1.out.cell k (by rw [List.length_set, spr_len]; exact hlt)
        have hf1 := HO1.out.frozen k
        have HO2 := Hid.mk' (HO1.out.set k l[k])
        have hs1 : Below w.heap.size (wr.setCell ⟨w.heap.size, k, none⟩ (.int .u8 ((tnt k).toNat : Int))) ((wr.setCell ⟨w.heap.size, k, none⟩ (.int .u8 ((tnt k).toNat : Int))).setCell ⟨w.heap.size, k, none⟩ (.int .u8 ((l[k]).toNat : Int))) := (Wb.set (X := fun j => j = w.heap.size) _ w.heap.size k _ rfl).below HB1.out.size fun j hj => by subst hj; exact Nat.le_refl _
        have HB2 := Hid.mk' (HB1.out.trans hs1)
        have HSP : Hid (((spr l k).set k (tnt k)).set k l[k] = spr l (k + 1)) := by
          show _ = _
          rw [List.set_set]
          exact spr_set l k _ (by unfold sp1; rw [if_pos hin, List.getD_eq_getElem?_getD, List.getElem?_eq_getElem hin]; rfl)
        clear hu hs1
        go_wp2_with fail
        go_roundw
        case rel => exact ⟨k + 1, by omega, by go_num, HB2, by rw [← HSP.out]; exact HO2⟩
        case measure => simp [intOf]; omega
      · have hin' : ¬ (k : Int) < (l.length : Int) := by omega
        have HSP : Hid ((spr l k).set k (tnt k) = spr l (k + 1)) := spr_set l k _ (by unfold sp1; rw [if_neg hin])
        go_wp2_with fail
        go_roundw
        case rel => exact ⟨k + 1, by omega, by go_num, HB1, by rw [← HSP.out]; exact HO1⟩
        case measure => simp [intOf]; omega
    · obtain rfl : k = l.length + 33 := by omega
      have HE : Hid (spr l (l.length + 33) = full l) := spr_end l
      have hsl : ∀ w', (Instr.slice 22 (.slice (some ⟨w.heap.size, 0, none⟩) (l.length + 33) (l.length + 33)) none (some (.int .i64 (l.length : Int))) none).run Tryz.prog w' = .ok (.slice (some ⟨w.heap.size, 0, none⟩) l.length (l.length + 33)) w' := fun w' => by
        rw [run_slice_h w' 22 _ _ _ (by kernel_rfl) .i64 (l.length : Int) (by omega) (by omega)]
        rw [show (sizeOf (Tryz.prog.elem 22)).run Tryz.prog w' = .ok 1 w' from by kernel_rfl]
        simp only [Result.andThen, Int.toNat_natCast]
        unfold Go.sliced
        rw [if_neg (by omega)]
        simp [addr_add]
      go_wp2_with fail
      go_ret2
      exact ⟨rfl, by rw [← HE.out]; exact HO.out, HB.out⟩
theorem full_lo {l : List UInt8} {k : Nat} (h : k < l.length) (h' : k < (full l).length) : (full l)[k] = l[k] := by
  simp only [full, List.getElem_map, List.getElem_range, sp1]
  rw [if_pos h, List.getD_eq_getElem?_getD, List.getElem?_eq_getElem h]; rfl
theorem full_hi {l : List UInt8} {k : Nat} (h : l.length ≤ k) (h' : k < (full l).length) : (full l)[k] = tnt k := by
  simp only [full, List.getElem_map, List.getElem_range, sp1]
  rw [if_neg (by omega)]
set_option maxRecDepth 100000 in
set_option maxHeartbeats 2000000 in
/-- groyneref01.Kept -/
theorem kept_any {A A' : Nat → Prop} {w : World} {v u : Value} {l : List UInt8} (h : Bs A w v (full l)) (h' : Bs A' w u l) (hl : l.length ≤ 1000000) : Calls Tryz.prog 15 #[v, u] w fun e w' => e = .returned (.bool true) ∧ Below w.heap.size w w' := by
  obtain ⟨a, c, rfl, _, _, H⟩ := h.at
  obtain ⟨a', c', rfl, _, _, H'⟩ := h'.at
  have H0 := Hid.mk' H
  have H1 := Hid.mk' H'
  have hfl := full_len l
  rw [hfl]
  have HFL := Hid.mk' hfl
  have hl1 : (l.length : Int) ≤ 1000000 := by omega
  clear h h' H H' hfl
  go_enter Tryz.func15, Tryz.ntmps15
  go_wp2_with fail
  go_loopw [5] (fun i wr => ∃ k : Nat, k ≤ l.length + 33 ∧ i = .int .i64 k ∧ Hid (Below w.heap.size w wr)) (fun i _ => l.length + 33 - (intOf i).toNat)
  case atStart => exact ⟨0, by omega, rfl, Below.refl _ _⟩
  case round =>
    obtain ⟨k, hk, rfl, HB⟩ := hrel
    by_cases hlt : k < l.length + 33
    · have hlt' : (k : Int) < (l.length : Int) + 33 := by omega
      have hkf : k < (full l).length := by rw [HFL.out]; exact hlt
      obtain ⟨b, o, ha, _, hu⟩ := H0.out k hkf
      subst ha
      have hu1 := cell_later HB.out hu
      clear hu
      go_wp2_with fail
      by_cases hin : k < l.length
      · have hin' : (k : Int) < (l.length : Int) := by omega
        have hin2 : ¬ (l.length : Int) ≤ (k : Int) := by omega
        obtain ⟨b', o', ha', _, hu'⟩ := H1.out k hin
        subst ha'
        have hu2 := cell_later HB.out hu'
        rw [full_lo hin] at hu1
        clear hu'
        have rr1 : ∀ q : Ups wr, q.nx.cell? ⟨b, o + k, none⟩ = some _ := fun q => q.cell hu1
        have rr2 : ∀ q : Ups wr, q.nx.cell? ⟨b', o' + k, none⟩ = some _ := fun q => q.cell hu2
        refine wp_region_free 30 Up (fun w' => ∃ q : Ups wr, w' = q.nx) (ul []) (by kernel_rfl) (by kernel_rfl) (ul_ck _) (up_first wr) ?_
        simp only [List.take_succ_cons, List.take_zero, List.drop_succ_cons, List.drop_zero]
        refine wf_take 26 rfl ?_
        simp only [List.take_succ_cons, List.take_zero, List.drop_succ_cons, List.drop_zero]
        repeat (go_big_quiet_step (fail))
        refine wpQuiet_nil ?_
        refine wf_skip (by kernel_rfl) ?_
        simp only [Act.put, List.setIfInBounds_toArray, List.set_cons_succ, List.set_cons_zero]
        refine wf_take 3 rfl ?_
        simp only [List.take_succ_cons, List.take_zero, List.drop_succ_cons, List.drop_zero]
        repeat (go_big_quiet_step (fail))
        refine wpQuiet_nil ?_
        intro wE hC hK
        clear hK
        obtain ⟨q, rfl⟩ := hC
        have HB2 := Hid.mk' (bt HB.out q.ok)
        generalize q.nx = wE at *
        clear q
        go_wp2_with fail
        go_roundw
        case rel => exact ⟨k + 1, by omega, by go_num, HB2⟩
        case measure => simp [intOf]; omega
      · have hin' : ¬ (k : Int) < (l.length : Int) := by omega
        have hin2 : (l.length : Int) ≤ (k : Int) := by omega
        rw [full_hi (by omega)] at hu1
        have rr1 : ∀ q : Ups wr, q.nx.cell? ⟨b, o + k, none⟩ = some _ := fun q => q.cell hu1
        refine wp_region_free 30 Up (fun w' => ∃ q : Ups wr, w' = q.nx) (ul [(44, UL.is (.int .u8 ((tnt k).toNat : Int)))]) (by kernel_rfl) (by kernel_rfl) (ul_ck _) (up_first wr) ?_
        simp only [List.take_succ_cons, List.take_zero, List.drop_succ_cons, List.drop_zero]
        refine wf_take 26 rfl ?_
        simp only [List.take_succ_cons, List.take_zero, List.drop_succ_cons, List.drop_zero]
        repeat (go_big_quiet_step (fail))
        refine wpQuiet_nil ?_
        refine wf_call (V := (UL.is (.int .u8 ((tnt k).toNat : Int))).1) (vals := [.int .i64 k]) Tryz.func33 (by kernel_rfl) rfl rfl (by kernel_rfl) (by kernel_rfl) (by kernel_rfl) (fun w1 hC hK => ?_) (fun u1 hu1 => ?_)
        · exact is_free ((tint_any w1 k (by omega)).mono fun e w' ⟨h1, h2⟩ => ⟨h1, h2 ▸ Below.refl _ _⟩)
        obtain rfl : u1 = .int .u8 ((tnt k).toNat : Int) := hu1
        simp only [Act.put, List.setIfInBounds_toArray, List.set_cons_succ, List.set_cons_zero]
        refine wf_take 3 rfl ?_
        simp only [List.take_succ_cons, List.take_zero, List.drop_succ_cons, List.drop_zero]
        repeat (go_big_quiet_step (fail))
        refine wpQuiet_nil ?_
        intro wE hC hK
        clear hK
        obtain ⟨q, rfl⟩ := hC
        have HB2 := Hid.mk' (bt HB.out q.ok)
        generalize q.nx = wE at *
        clear q
        go_wp2_with fail
        go_roundw
        case rel => exact ⟨k + 1, by omega, by go_num, HB2⟩
        case measure => simp [intOf]; omega
    · obtain rfl : k = l.length + 33 := by omega
      go_wp2_with fail
      go_ret
      exact ⟨rfl, HB.out⟩
theorem drew_bl' (w : World) (B : Nat) : Below B w w.drew := ⟨rfl, rfl, rfl, Nat.le_refl _, fun _ _ => rfl⟩
/-- an append stays in its block or makes a new one -/
theorem app_at {A : Nat → Prop} {B : Nat} {w : World} {v u : Value} {l m : List UInt8} (h : Ob 5 B w v l) (hu : Bs A w u m) (hm : 0 < m.length) (hl : l.length + m.length ≤ 100000000) (hB : B ≤ w.heap.size) :
    ∃ v' w', (Builtin.append_ #[22, 22] 22 #[v, u]).run Tryz.prog w = .ok v' w' ∧ Ob 5 B w' v' (l ++ m) ∧
      ((∃ b C, v = .slice (some ⟨b, 0, none⟩) l.length C ∧ v' = .slice (some ⟨b, 0, none⟩) (l.length + m.length) C ∧ Wb (fun k => k = b) w w') ∨ ((∃ C, v' = .slice (some ⟨w.heap.size, 0, none⟩) (l.length + m.length) C) ∧ Below w.heap.size w w')) := by
  have hmx : l.length + m.length ≤ maxLen := by unfold maxLen; omega
  obtain ⟨v', w', r1, r2, r3, r4, r5⟩ := run_app (P := Tryz.prog) 22 22 Tryz.underlying22 Tryz.info5 rfl (by decide) h hu.1 (bv_one m) hmx (by omega) hB
  rw [← bv_append] at r2
  have r2' : Ob 5 B w' v' (l ++ m) := by unfold Ob; rw [List.length_append]; exact r2
  refine ⟨v', w', r1, r2', ?_⟩
  obtain ⟨g', cap', e'⟩ := r2'.form (by rw [List.length_append]; omega)
  rw [List.length_append] at e'
  obtain ⟨i0, hi, hz0, hz1, hz2⟩ := info_parts Tryz.info5
  obtain ⟨h0, ⟨e, hn⟩ | ⟨g, cap, cur, hv, hb, hg, h1, h2, h3, h4⟩⟩ := id h
  · right
    subst e
    rcases r5 with r5 | r5
    · rw [e'] at r5; cases r5
    · rw [e'] at r5
      simp only [Value.ownBlock, Option.some.injEq] at r5
      subst r5
      exact ⟨⟨_, e'⟩, ⟨r3.os, r3.tape, r3.output, r3.size, fun k hk => r3.block k hk (by simp [Value.ownBlock])⟩⟩
  · subst hv
    obtain ⟨_, ad, c, rfl, hc, ha, H⟩ := hu.1
    obtain ⟨p, rfl⟩ : ∃ p, ad = some p := by
      cases ad with
      | none => have := ha rfl; omega
      | some p => exact ⟨p, rfl⟩
    have hn : ∀ j u, (bv m)[j]? = some u → w.cell? (p.add j) = some u := by
      intro j u hj
      obtain ⟨b, o, hp, _, hcell⟩ := H j u hj
      simp only [Option.some.injEq] at hp
      subst hp
      rw [addr_add]; exact hcell
    by_cases hroom : l.length + m.length ≤ cap
    · left
      have hr := run_append_room (P := Tryz.prog) w 22 22 5 i0 Tryz.underlying22 hi g l.length cap cur hg p m.length c (bv m) (by rw [hz1, bv_length, Nat.mul_one]) hn (bv_one m) hroom (by rw [hz1, bv_length, h3]; omega)
      rw [hr] at r1
      simp only [Result.ok.injEq] at r1
      obtain ⟨rfl, rfl⟩ := r1
      exact ⟨g, cap, rfl, rfl, (Wb.of_grown r3).mono fun k hk => by simpa [Value.ownBlock] using hk⟩
    · right
      have hcl : ∀ j v, (bv l)[j]? = some v → w.cell? ((⟨g, 0, none⟩ : Addr).add j) = some v := by
        intro j v hj
        rw [addr_add, Nat.zero_add]
        have hjl : j < l.length := by have := (List.getElem?_eq_some_iff.1 hj).1; rw [bv_length] at this; exact this
        rw [h.cell j hjl]
        have := bv_get l j hjl
        rw [← hj]; exact this.symm
      have hr := run_append_grow (P := Tryz.prog) w 22 22 5 i0 (.int .u8 0) Tryz.underlying22 hi hz0 ⟨g, 0, none⟩ l.length cap (bv l) (by rw [hz1, bv_length, Nat.mul_one]) hcl p m.length c (bv m) (by rw [hz1, bv_length, Nat.mul_one]) hn (by omega) (by omega) (growslice_fits (by omega) (by rw [hz2]; omega))
      rw [hr] at r1
      simp only [Result.ok.injEq] at r1
      obtain ⟨rfl, rfl⟩ := r1
      exact ⟨⟨_, rfl⟩, ⟨rfl, rfl, rfl, by simp, fun k hk => Below.heap_alloc w.drew _ k hk⟩⟩
/-- the stamps of the i-th list -/
def st (i m : Nat) : List UInt8 := (List.range m).map (stm i)
theorem st_len (i m : Nat) : (st i m).length = m := by simp [st]
theorem st_get (i m t : Nat) (h : t < m) : (st i m)[t]? = some (stm i t) := by simp [st, h]
theorem st_take (i : Nat) {m n : Nat} (h : m ≤ n) : (st i n).take m = st i m := by
  apply List.ext_getElem
  · simp [st]; omega
  · intro t h1 h2; simp [st]
theorem st_succ (i m : Nat) : st i m ++ [stm i m] = st i (m + 1) := by simp [st, List.range_succ]
theorem eq_st {i m : Nat} {c : List UInt8} (h : c.length = m) (k : ∀ t, t < m → c[t]? = some (stm i t)) : c = st i m := by
  apply List.ext_getElem?
  intro t
  by_cases ht : t < m
  · rw [k t ht, st_get i m t ht]
  · rw [List.getElem?_eq_none (by omega), List.getElem?_eq_none (by rw [st_len]; omega)]
/-- how far the j-th list is stamped -/
def bnd (L : Nat → Nat) (i k j : Nat) : Nat := if j < i then L j else if j = i then k else 0
/-- of what lay in w only blocks of the lists are written -/
def Fm (B : Nat) (vs : List Value) (w w' : World) : Prop := Below B w w' ∧ ∀ k, k < w.heap.size → (∀ j (h : j < vs.length), vs[j].ownBlock ≠ some k) → w'.heap[k]? = w.heap[k]?
theorem Fm.refl (B : Nat) (vs : List Value) (w : World) : Fm B vs w w := ⟨Below.refl _ _, fun _ _ _ => rfl⟩
theorem Fm.wb {B : Nat} {vs : List Value} {w w' w2 : World} {X : Nat → Prop} (h : Fm B vs w w') (hw : Wb X w' w2) (hB : B ≤ w'.heap.size) (h1 : ∀ k, X k → B ≤ k) (h2 : ∀ k, X k → w.heap.size ≤ k ∨ ∃ j, ∃ h : j < vs.length, vs[j].ownBlock = some k) : Fm B vs w w2 :=
  ⟨h.1.trans (hw.below hB h1), fun k hk hv => by
    rw [hw.block k (Nat.lt_of_lt_of_le hk h.1.size) fun hx => by
      rcases h2 k hx with h3 | ⟨j, hj, h3⟩
      · omega
      · exact hv j hj h3]
    exact h.2 k hk hv⟩
theorem Fm.up {B : Nat} {vs : List Value} {w w' w2 : World} (h : Fm B vs w w') (hb : Below w'.heap.size w' w2) (hB : B ≤ w'.heap.size) : Fm B vs w w2 := h.wb (Wb.of_below (fun _ => False) hb) hB (fun _ e => e.elim) fun _ e => e.elim
theorem Fm.dn {B : Nat} {vs : List Value} {w w' w2 : World} (h : Fm B vs w w') (hb : Dn w' w2) : Fm B vs w w2 := by
  obtain ⟨n, rfl⟩ := hb
  exact ⟨h.1.trans ((Dn.refl w').more n |>.below _), h.2⟩
structure P1 (B ob : Nat) (vs : List Value) (L : Nat → Nat) (w : World) (i k : Nat) (w' : World) : Prop where
  bl : Fm B vs w w'
  ob : w'.heap[ob]? = some (.cells vs.toArray 22 (0, 0))
  el : ∀ j (h : j < vs.length), ∃ c, Ob 5 B w' vs[j] c ∧ c.length = L j ∧ ∀ t, t < bnd L i k j → c[t]? = some (stm j t)
theorem P1.next {B ob : Nat} {vs : List Value} {L : Nat → Nat} {w w' : World} {i : Nat} (h : P1 B ob vs L w i (L i) w') : P1 B ob vs L w (i + 1) 0 w' :=
  ⟨h.bl, h.ob, fun j hj => by
    obtain ⟨c, h1, h2, h3⟩ := h.el j hj
    refine ⟨c, h1, h2, fun t ht => h3 t ?_⟩
    unfold bnd at ht ⊢
    by_cases e1 : j < i
    · rw [if_pos e1]; rw [if_pos (by omega)] at ht; exact ht
    · by_cases e2 : j = i
      · subst e2; rw [if_neg (by omega), if_pos rfl]; rw [if_pos (by omega)] at ht; exact ht
      · rw [if_neg (by omega)] at ht; split at ht <;> omega⟩
theorem P1.cell {B ob : Nat} {vs : List Value} {L : Nat → Nat} {w w' : World} {i k : Nat} (h : P1 B ob vs L w i k w') (j : Nat) (hj : j < vs.length) : w'.cell? ⟨ob, j, none⟩ = some vs[j] := by
  simp only [World.cell?, h.ob]; simp [hj]
theorem P1.drew {B ob : Nat} {vs : List Value} {L : Nat → Nat} {w w' : World} {i k : Nat} (h : P1 B ob vs L w i k w') : P1 B ob vs L w i k w'.drew := ⟨h.bl.dn ((Dn.refl _).more 1), h.ob, h.el⟩
theorem P1.put {B ob : Nat} {vs : List Value} {L : Nat → Nat} {w w' : World} {i k g cap : Nat} (h : P1 B ob vs L w i k w') (hi : i < vs.length) (hg : vs[i] = .slice (some ⟨g, 0, none⟩) (L i) cap) (hk : k < L i)
    (hsep : ∀ a b (ha : a < vs.length) (hb : b < vs.length), a ≠ b → ∀ k, vs[a].ownBlock = some k → vs[b].ownBlock ≠ some k) : P1 B ob vs L w i (k + 1) (w'.setCell ⟨g, k, none⟩ (.int .u8 ((stm i k).toNat : Int))) := by
  have hgb : vs[i].ownBlock = some g := by rw [hg]; rfl
  obtain ⟨c, h1, h2, h3⟩ := h.el i hi
  have hty := own_typed h1 g hgb
  have hw := Wb.set (X := fun j => j = g) w' g k (.int .u8 ((stm i k).toNat : Int)) rfl
  have hgl : g < w'.heap.size := (h1.lt g hgb).2
  refine ⟨h.bl.wb hw (by have := hty.1; omega) (fun j hj => by subst hj; exact hty.1) (fun j hj => by subst hj; exact .inr ⟨i, hi, hgb⟩), ?_, fun j hj => ?_⟩
  · rw [hw.block ob (Array.getElem?_eq_some_iff.1 h.ob).1 (by rintro rfl; obtain ⟨_, _, _, h5⟩ := hty; rw [h.ob] at h5; cases h5)]; exact h.ob
  · by_cases e : j = i
    · subst e
      rw [hg] at h1
      have h5 := h1.set k (stm j k)
      refine ⟨c.set k (stm j k), by rw [hg]; exact h5, by rw [List.length_set]; exact h2, fun t ht => ?_⟩
      unfold bnd at ht h3
      rw [if_neg (by omega), if_pos rfl] at ht
      by_cases e : t = k
      · subst e; rw [List.getElem?_set_self (by omega)]
      · rw [List.getElem?_set_ne (by omega)]
        exact h3 t (by rw [if_neg (by omega), if_pos rfl]; omega)
    · obtain ⟨c', k1, k2, k3⟩ := h.el j hj
      refine ⟨c', own_wb k1 hw fun x hx e' => by subst hx; exact hsep i j hi hj (Ne.symm e) x hgb e'.symm, k2, fun t ht => k3 t ?_⟩
      unfold bnd at ht ⊢
      rw [if_neg (show ¬ j = i from e)] at ht ⊢
      exact ht
/-- g is v with more behind it, in its block or in a later one -/
def Rel (S : Nat) (v g : Value) (n m : Nat) : Prop := (∃ b C, v = .slice (some ⟨b, 0, none⟩) n C ∧ g = .slice (some ⟨b, 0, none⟩) m C) ∨ (∃ k, g.ownBlock = some k ∧ S ≤ k) ∨ g = .slice none 0 0
def tl (L : Nat → Nat) (N j : Nat) : Nat := L (j % N) + if j < N then 9 else 33
structure P2 (B ob S : Nat) (vs : List Value) (L : Nat → Nat) (w : World) (gs : List Value) (lv : Value) (w' : World) : Prop where
  bl : Fm B vs w w'
  BS : B ≤ S
  wS : w.heap.size ≤ S
  sz : S ≤ w'.heap.size
  hob : w'.heap[ob]? = some (.cells vs.toArray 22 (0, 0))
  obS : ob < S
  vS : ∀ j (h : j < vs.length) k, vs[j].ownBlock = some k → k < S
  el : ∀ j (h : j < vs.length), Ob 5 B w' vs[j] (st j (L j))
  lg : w'.ownsRow S 22 1 lv gs.length gs
  ge : ∀ j (h : j < gs.length) (h' : j % vs.length < vs.length), Ob 5 B w' gs[j] (st (j % vs.length) (tl L vs.length j)) ∧ Rel S (vs[j % vs.length]) gs[j] (L (j % vs.length)) (tl L vs.length j)
theorem P2.cell {B ob S : Nat} {vs gs : List Value} {L : Nat → Nat} {w w' : World} {lv : Value} (h : P2 B ob S vs L w gs lv w') (j : Nat) (hj : j < vs.length) : w'.cell? ⟨ob, j, none⟩ = some vs[j] := by
  simp only [World.cell?, h.hob]; simp [hj]
/-- only other blocks are written -/
theorem P2.wb {B ob S : Nat} {vs gs : List Value} {L : Nat → Nat} {w w' w2 : World} {lv : Value} {X : Nat → Prop} (h : P2 B ob S vs L w gs lv w') (hw : Wb X w' w2) (hB : ∀ k, X k → B ≤ k) (h1 : ∀ k, X k → k ≠ ob) (h2 : ∀ k, X k → ∀ j (hj : j < vs.length), some k ≠ vs[j].ownBlock) (h3 : ∀ k, X k → ∀ j (hj : j < gs.length), some k ≠ gs[j].ownBlock) (h4 : ∀ k, X k → some k ≠ lv.ownBlock) (h5 : ∀ k, X k → S ≤ k) : P2 B ob S vs L w gs lv w2 :=
  ⟨h.bl.wb hw (Nat.le_trans h.BS h.sz) hB (fun k hk => .inl (Nat.le_trans h.wS (h5 k hk))), h.BS, h.wS, Nat.le_trans h.sz hw.size, by rw [hw.block ob (Array.getElem?_eq_some_iff.1 h.hob).1 fun e => h1 ob e rfl]; exact h.hob, h.obS, h.vS, fun j hj => own_wb (h.el j hj) hw fun k hk => h2 k hk j hj, own_wb h.lg hw h4, fun j hj hj' => ⟨own_wb (h.ge j hj hj').1 hw fun k hk => h3 k hk j hj, (h.ge j hj hj').2⟩⟩
theorem P2.up {B ob S : Nat} {vs gs : List Value} {L : Nat → Nat} {w w' w2 : World} {lv : Value} (h : P2 B ob S vs L w gs lv w') (hb : Below w'.heap.size w' w2) : P2 B ob S vs L w gs lv w2 :=
  h.wb (Wb.of_below (fun _ => False) hb) (fun _ e => e.elim) (fun _ e => e.elim) (fun _ e => e.elim) (fun _ e => e.elim) (fun _ e => e.elim) (fun _ e => e.elim)
/-- one of the lists has grown in its place -/
theorem P2.inpl {B ob S : Nat} {vs gs : List Value} {L : Nat → Nat} {w w' w2 : World} {lv : Value} {i b C n : Nat} (h : P2 B ob S vs L w gs lv w') (hi : i < vs.length) (hv : vs[i] = .slice (some ⟨b, 0, none⟩) (L i) C) (hw : Wb (fun k => k = b) w' w2) (ho : Ob 5 B w2 (.slice (some ⟨b, 0, none⟩) n C) (st i n)) (hn : L i ≤ n)
    (hI : ∀ j, j < gs.length → j % vs.length = i → tl L vs.length j ≤ n) (hsep : ∀ a b (ha : a < vs.length) (hb : b < vs.length), a ≠ b → ∀ k, vs[a].ownBlock = some k → vs[b].ownBlock ≠ some k) : P2 B ob S vs L w gs lv w2 := by
  have hvb : vs[i].ownBlock = some b := by rw [hv]; rfl
  have hbS := h.vS i hi b hvb
  have hty := own_typed (h.el i hi) b hvb
  have hpre : ∀ m, m ≤ n → Ob 5 B w2 (.slice (some ⟨b, 0, none⟩) m C) (st i m) := fun m hm => by
    have := own_pre ho hm
    rw [st_take i hm] at this; exact this
  refine ⟨h.bl.wb hw (Nat.le_trans h.BS h.sz) (fun k hk => by subst hk; exact hty.1) (fun k hk => by subst hk; exact .inr ⟨i, hi, hvb⟩), h.BS, h.wS, Nat.le_trans h.sz hw.size, ?_, h.obS, h.vS, fun j hj => ?_, own_wb h.lg hw fun k hk e => ?_, fun j hj hj' => ?_⟩
  · rw [hw.block ob (Array.getElem?_eq_some_iff.1 h.hob).1 (by rintro rfl; obtain ⟨_, _, _, h5⟩ := hty; rw [h.hob] at h5; cases h5)]; exact h.hob
  · by_cases e : j = i
    · subst e; rw [hv]; exact hpre _ hn
    · exact own_wb (h.el j hj) hw fun k hk e' => by subst hk; exact hsep i j hi hj (Ne.symm e) k hvb e'.symm
  · subst hk
    have := (own_typed h.lg k e.symm).1
    omega
  · obtain ⟨k1, k2⟩ := h.ge j hj hj'
    refine ⟨?_, k2⟩
    have hout : gs[j].ownBlock ≠ some b → Ob 5 B w2 gs[j] (st (j % vs.length) (tl L vs.length j)) := fun hne => own_wb k1 hw fun k hk e' => by subst hk; exact hne e'.symm
    rcases k2 with ⟨b', C', e1, e2⟩ | ⟨k, e1, e2⟩ | e1
    · by_cases e : j % vs.length = i
      · have e1' : vs[i] = .slice (some ⟨b', 0, none⟩) (L (j % vs.length)) C' := by rw [← e1]; congr 1; exact e.symm
        rw [hv] at e1'
        obtain ⟨hbb, hcc⟩ : b = b' ∧ C = C' := by simp at e1'; exact ⟨e1'.1, e1'.2.2⟩
        subst hbb
        subst hcc
        rw [e2]
        have := hpre _ (hI j hj e)
        rw [e]; exact this
      · refine hout fun e3 => ?_
        rw [e2] at e3
        have e4 : b' = b := by simpa [Value.ownBlock] using e3
        exact hsep _ i hj' hi e b (by rw [e1, e4]; rfl) hvb
    · exact hout fun e3 => by rw [e1] at e3; cases e3; omega
    · exact hout fun e3 => by rw [e1] at e3; cases e3
/-- a later block is g's alone -/
def Gf (gs : List Value) (lv : Value) (S : Nat) (g : Value) : Prop := ∀ k, g.ownBlock = some k → S ≤ k → (∀ j (h : j < gs.length), gs[j].ownBlock ≠ some k) ∧ lv.ownBlock ≠ some k
theorem st_app (i n m : Nat) : st i n ++ (List.range m).map (fun t => stm i (n + t)) = st i (n + m) := by
  unfold st
  rw [List.range_add, List.map_append, List.map_map]
  rfl
theorem P2.grow {A : Nat → Prop} {B ob S : Nat} {vs gs : List Value} {L : Nat → Nat} {w w' : World} {lv g u : Value} {i n m : Nat} (h : P2 B ob S vs L w gs lv w') (hi : i < vs.length) (ho : Ob 5 B w' g (st i n)) (hr : Rel S vs[i] g (L i) n) (hf : Gf gs lv S g) (hu : Bs A w' u ((List.range m).map fun t => stm i (n + t))) (hm : 0 < m) (hb : n + m ≤ 100000000) (hLn : L i ≤ n)
    (hI : ∀ j, j < gs.length → j % vs.length = i → tl L vs.length j ≤ n + m) (hsep : ∀ a b (ha : a < vs.length) (hb : b < vs.length), a ≠ b → ∀ k, vs[a].ownBlock = some k → vs[b].ownBlock ≠ some k) :
    ∃ g' w2, (Builtin.append_ #[22, 22] 22 #[g, u]).run Tryz.prog w' = .ok g' w2 ∧ P2 B ob S vs L w gs lv w2 ∧ Ob 5 B w2 g' (st i (n + m)) ∧ Rel S vs[i] g' (L i) (n + m) ∧ Gf gs lv S g' := by
  have hlm : ((List.range m).map fun t => stm i (n + t)).length = m := by simp
  obtain ⟨g', w2, r1, r2, r3⟩ := app_at ho hu (by rw [hlm]; exact hm) (by rw [hlm, st_len]; exact hb) (Nat.le_trans h.BS h.sz)
  rw [st_app] at r2
  rw [hlm, st_len] at r3
  refine ⟨g', w2, r1, ?_⟩
  rcases r3 with ⟨b, C, e1, e2, hw⟩ | ⟨⟨C, e1⟩, hw⟩
  · rcases hr with ⟨b', C', k1, k2⟩ | ⟨k, k1, k2⟩ | k1
    · rw [e1] at k2
      obtain ⟨hbb, hcc⟩ : b = b' ∧ C = C' := by simp at k2; exact ⟨k2.1, k2.2⟩
      subst hbb
      subst hcc
      rw [e2] at r2 ⊢
      refine ⟨h.inpl hi k1 hw r2 (by omega) hI hsep, r2, .inl ⟨b, C, k1, rfl⟩, fun k hk hS => ?_⟩
      have : b = k := by simpa [Value.ownBlock] using hk
      have := h.vS i hi b (by rw [k1]; rfl)
      omega
    · rw [e1] at k1
      have hbk : b = k := by simpa [Value.ownBlock] using k1
      subst hbk
      obtain ⟨f1, f2⟩ := hf b (by rw [e1]; rfl) k2
      refine ⟨h.wb hw (fun j hj => by subst hj; exact Nat.le_trans h.BS k2) (fun j hj => by subst hj; have := h.obS; omega) (fun j hj t ht e => by subst hj; have := h.vS t ht j e.symm; omega) (fun j hj t ht e => by subst hj; exact f1 t ht e.symm) (fun j hj e => by subst hj; exact f2 e.symm) (fun j hj => by subst hj; exact k2), r2, .inr (.inl ⟨b, by rw [e2]; rfl, k2⟩), fun k hk hS => ?_⟩
      rw [e2] at hk
      have : b = k := by simpa [Value.ownBlock] using hk
      subst this
      exact ⟨f1, f2⟩
    · rw [e1] at k1; cases k1
  · refine ⟨h.up hw, r2, .inr (.inl ⟨w'.heap.size, by rw [e1]; rfl, h.sz⟩), fun k hk hS => ?_⟩
    rw [e1] at hk
    have : w'.heap.size = k := by simpa [Value.ownBlock] using hk
    subst this
    refine ⟨fun j hj e => ?_, fun e => ?_⟩
    · have hN : j % vs.length < vs.length := Nat.mod_lt _ (by omega)
      have := ((h.ge j hj hN).1.lt _ e).2
      omega
    · have := (World.ownsRow.lt h.lg _ e).2
      omega
theorem rel_self {B S : Nat} {w : World} {v : Value} {l : List UInt8} {n : Nat} (h : Ob 5 B w v l) (hn : l.length = n) : Rel S v v n n := by
  obtain ⟨_, h | ⟨g, cap, cur, hv, _⟩⟩ := h
  · exact .inr (.inr h.1)
  · rw [hn] at hv; exact .inl ⟨g, cap, hv, hv⟩
theorem P1.done {B ob : Nat} {vs : List Value} {L : Nat → Nat} {w w' : World} (h : P1 B ob vs L w vs.length 0 w') (hB : B ≤ w.heap.size) : P2 B ob w'.heap.size vs L w [] (.slice none 0 0) w' :=
  ⟨h.bl, Nat.le_trans hB h.bl.1.size, h.bl.1.size, Nat.le_refl _, h.ob, (Array.getElem?_eq_some_iff.1 h.ob).1, fun j hj k hk => by obtain ⟨c, h1, _⟩ := h.el j hj; exact (h1.lt k hk).2, fun j hj => by
    obtain ⟨c, h1, h2, h3⟩ := h.el j hj
    rw [← eq_st h2 fun t ht => h3 t (by unfold bnd; rw [if_pos hj]; exact ht)]; exact h1, World.ownsRow_nil _ _ _ _, fun j hj => by simp at hj⟩
/-- one more entry -/
theorem P2.push {B ob S : Nat} {vs gs : List Value} {L : Nat → Nat} {w w' w2 : World} {lv lv' g : Value} (h : P2 B ob S vs L w gs lv w') (hg : w'.grownBy w2 lv.ownBlock) (hl : w2.ownsRow S 22 1 lv' (gs.length + 1) (gs ++ [g])) (ho : Ob 5 B w' g (st (gs.length % vs.length) (tl L vs.length gs.length)))
    (hr : ∀ h' : gs.length % vs.length < vs.length, Rel S (vs[gs.length % vs.length]) g (L (gs.length % vs.length)) (tl L vs.length gs.length)) : P2 B ob S vs L w (gs ++ [g]) lv' w2 := by
  have hw := Wb.of_grown hg
  have hty : ∀ k, some k = lv.ownBlock → S ≤ k ∧ ∃ cur fr, w'.heap[k]? = some (.cells cur 22 fr) := fun k hk => own_typed h.lg k hk.symm
  have hno : ∀ {v : Value} {l : List UInt8}, Ob 5 B w' v l → Ob 5 B w2 v l := fun hv => own_wb hv hw fun k hk e => by
    obtain ⟨_, _, _, h1⟩ := hty k hk
    obtain ⟨_, _, _, h2⟩ := own_typed hv k e.symm
    rw [h1] at h2; cases h2
  refine ⟨h.bl.wb hw (Nat.le_trans h.BS h.sz) (fun k hk => Nat.le_trans h.BS (hty k hk).1) (fun k hk => .inl (Nat.le_trans h.wS (hty k hk).1)), h.BS, h.wS, Nat.le_trans h.sz hw.size, ?_, h.obS, h.vS, fun j hj => hno (h.el j hj), by rw [List.length_append]; exact hl, fun j hj hj' => ?_⟩
  · rw [hw.block ob (Array.getElem?_eq_some_iff.1 h.hob).1 fun e => by have := (hty ob e).1; have := h.obS; omega]; exact h.hob
  · rw [List.length_append] at hj
    by_cases e : j < gs.length
    · rw [List.getElem_append_left e]
      exact ⟨hno (h.ge j e hj').1, (h.ge j e hj').2⟩
    · have e2 : j = gs.length := by simp at hj; omega
      subst e2
      rw [List.getElem_append_right (Nat.le_refl _)]
      simp only [Nat.sub_self, List.getElem_cons_zero]
      exact ⟨hno ho, hr hj'⟩
theorem P2.push' {B ob S : Nat} {vs gs : List Value} {L : Nat → Nat} {w w' w2 : World} {lv lv' g : Value} (h : P2 B ob S vs L w gs lv w') (hg : w'.grownBy w2 lv.ownBlock) (hl : w2.ownsRow S 22 1 lv' (gs.length + 1) (gs ++ [g])) {i t : Nat} (hi : i < vs.length) (e1 : gs.length % vs.length = i) (e2 : tl L vs.length gs.length = t) (ho : Ob 5 B w' g (st i t)) (hr : Rel S vs[i] g (L i) t) : P2 B ob S vs L w (gs ++ [g]) lv' w2 := by
  subst e1
  subst e2
  exact h.push hg hl ho fun _ => hr
def tcl (i n k : Nat) : List UInt8 := (List.range 33).map fun t => if t < k then stm i (n + t) else 0
theorem tcl_len (i n k : Nat) : (tcl i n k).length = 33 := by simp [tcl]
theorem tcl_zero (i n : Nat) : tcl i n 0 = List.replicate 33 0 := by
  apply List.ext_getElem
  · simp [tcl]
  · intro t h1 h2
    rw [List.getElem_replicate]
    simp only [tcl, List.getElem_map, List.getElem_range]
    rw [if_neg (by omega)]
theorem tcl_end (i n : Nat) : tcl i n 33 = (List.range 33).map fun t => stm i (n + t) := by
  unfold tcl
  refine List.map_congr_left fun j hj => ?_
  rw [if_pos (by simpa using hj)]
theorem tcl_set (i n k : Nat) : (tcl i n k).set k (stm i (n + k)) = tcl i n (k + 1) := by
  apply List.ext_getElem
  · simp [tcl]
  · intro t h1 h2
    simp only [tcl, List.getElem_set, List.getElem_map, List.getElem_range]
    by_cases hi : k = t
    · subst hi; rw [if_pos rfl, if_pos (by omega)]
    · rw [if_neg hi]
      by_cases hl : t < k
      · rw [if_pos hl, if_pos (by omega)]
      · rw [if_neg hl, if_neg (by omega)]
theorem wpl_appat {P : Program} {w : World} {ops : Array Oper} {rest : List Oper} {o : Oper} {a : Act} {Q : Exit → Act → World → Prop} (hgd : o.guard = none) (s x : Operand) (t : TypeId)
    (ho : o.op = .call { callee := .builtin .append, args := #[s, x], argTypes := #[t, t] }) {v u v' : Value} {w' : World} (hs : a.eval s = v) (hx : a.eval x = u) (hr : (Builtin.append_ #[t, t] o.type #[v, u]).run P w = .ok v' w') (h : wpList P ops Q rest (a.put o.dst v') w') : wpList P ops Q (o :: rest) a w := by
  refine wpList_plain hgd fun K hK => ?_
  unfold Oper.wp execOp
  simp only [ho, resolve, invoke, builtin, Sem.run_bind, Sem.run_pure, Result.andThen_ok, List.map_toArray, List.map_cons, List.map_nil, hs, hx, hr]
  exact hK _ _ h
theorem one_bs {w : World} (x : UInt8) : Bs (Lt (w.heap.size + 1)) (w.alloc (.cells #[.int .u8 (x.toNat : Int)] 5)) (.slice (some ⟨w.heap.size, 0, none⟩) 1 1) [x] := ⟨row_one, by unfold lim; simp⟩
set_option maxRecDepth 100000 in
set_option maxHeartbeats 4000000 in
/-- groyneref01.Apart -/
theorem apart_fm {B ob : Nat} {w : World} {vs : List Value} {F : Nat → List UInt8} (hob : w.heap[ob]? = some (.cells vs.toArray 22 (0, 0))) (hel : ∀ j (h : j < vs.length), Ob 5 B w vs[j] (F j))
    (hsep : ∀ a b (ha : a < vs.length) (hb : b < vs.length), a ≠ b → ∀ k, vs[a].ownBlock = some k → vs[b].ownBlock ≠ some k) (hB : B ≤ w.heap.size) (hN : vs.length ≤ 79) (hL : ∀ j, (F j).length ≤ 1000000) :
    Calls Tryz.prog 20 #[.slice (some ⟨ob, 0, none⟩) vs.length vs.length] w fun e w' => e = .returned (.bool true) ∧ Fm B vs w w' := by
  obtain ⟨L, hLe⟩ : ∃ L : Nat → Nat, L = fun j => (F j).length := ⟨_, rfl⟩
  have HL : Hid (∀ j, L j ≤ 1000000) := fun j => by rw [hLe]; exact hL j
  have HS := Hid.mk' hsep
  have T0 : Hid (P1 B ob vs L w 0 0 w) := ⟨Fm.refl _ _ _, hob, fun j hj => ⟨F j, hel j hj, by rw [hLe], fun t ht => by unfold bnd at ht; split at ht <;> (try split at ht) <;> omega⟩⟩
  clear hob hel hsep hL hLe
  have hN1 : (vs.length : Int) ≤ 79 := by omega
  go_enter Tryz.func20, Tryz.ntmps20
  go_wp2_with fail
  go_loopw [4] (fun i wr => ∃ k : Nat, k ≤ vs.length ∧ i = .int .i64 k ∧ Hid (P1 B ob vs L w k 0 wr)) (fun i _ => vs.length - (intOf i).toNat)
  case atStart => exact ⟨0, by omega, rfl, T0⟩
  case round =>
    obtain ⟨i, hi, rfl, HP⟩ := hrel
    by_cases hlt : i < vs.length
    · have hlt' : (i : Int) < (vs.length : Int) := by omega
      go_wp2_with fail
      rename World => wv
      go_loopw [5] (fun k wr => ∃ m : Nat, m ≤ L i ∧ k = .int .i64 m ∧ Hid (P1 B ob vs L w i m wr)) (fun k _ => L i - (intOf k).toNat)
      case atStart => exact ⟨0, by omega, rfl, HP⟩
      case round =>
        obtain ⟨m, hm, rfl, HQ⟩ := hrel
        have hc := HQ.out.cell i hlt
        have hLi : L i ≤ 1000000 := HL.out i
        obtain ⟨c, h1, h2, h3⟩ := HQ.out.el i hlt
        obtain ⟨a, cc, ea⟩ := own_slice h1
        rw [h2] at ea
        by_cases hlm : m < L i
        · have hlm' : (m : Int) < (L i : Int) := by omega
          obtain ⟨g, cap, eg⟩ := h1.form (by omega)
          rw [h2] at eg
          have hcell := h1
          rw [eg] at hc hcell
          obtain ⟨z, hc1⟩ : ∃ z, wr.cell? ⟨g, m, none⟩ = some z := ⟨_, hcell.cell m (by omega)⟩
          have hf1 := hcell.frozen m
          have HPU := Hid.mk' (HQ.out.drew.put hlt eg hlm HS.out)
          have HST := Hid.mk' (fun n => stamp_any (wr.drewN n) i m (by omega) (by omega))
          clear h1 h2 h3 ea hcell
          go_wp2_with fail
          have rr1 : ∀ q : Kp (fun _ => False) wr, q.nx.cell? ⟨ob, i, none⟩ = some _ := fun q => q.cell hc id
          refine wp_region_mix 9 (fun w' => ∃ q : Kp (fun _ => False) wr, w' = q.nx) (by kernel_rfl) (by kernel_rfl) (kp_first _ wr) ?_
          simp only [List.take_succ_cons, List.take_zero, List.drop_succ_cons, List.drop_zero]
          refine mx_take 7 rfl ?_
          simp only [List.take_succ_cons, List.take_zero, List.drop_succ_cons, List.drop_zero]
          repeat (go_big_quiet_step (fail))
          refine wpQuiet_nil ?_
          refine mx_call (vals := [.int .i64 i, .int .i64 m]) Tryz.func46 (by kernel_rfl) rfl rfl (by kernel_rfl) (by kernel_rfl) (stamp_any wr.drew i m (by omega) (by omega)) (fun e wa ha => ?_)
          obtain ⟨rfl, rfl⟩ := ha
          refine ⟨_, rfl, kp_mk (Nat.le_refl _) fun b hb hx => rfl, ?_⟩
          simp only [Act.put, List.setIfInBounds_toArray, List.set_cons_succ, List.set_cons_zero]
          refine mx_take 1 rfl ?_
          simp only [List.take_succ_cons, List.take_zero, List.drop_succ_cons, List.drop_zero]
          repeat (go_big_quiet_step (fail))
          refine wpQuiet_nil ?_
          simp only [wpMix]
          clear rr1
          have hc2 : wr.drew.cell? ⟨g, m, none⟩ = some z := hc1
          have hf2 : wr.drew.frozen? ⟨g, m, none⟩ = false := hf1
          clear hc1 hf1 hc
          go_wp2_with fail
          go_roundw
          case rel => exact ⟨m + 1, by omega, by go_num, HPU⟩
          case measure => simp [intOf]; omega
        · obtain rfl : m = L i := by omega
          rw [ea] at hc
          clear h1 h2 h3 ea
          go_wp2_with fail
          go_roundw
          case rel => exact ⟨i + 1, by omega, by go_num, HQ.out.next⟩
          case measure => simp [intOf]; omega
    · obtain rfl : i = vs.length := by omega
      have HP2 := Hid.mk' (HP.out.done hB)
      obtain ⟨S, hS⟩ : ∃ S, S = wr.heap.size := ⟨_, rfl⟩
      rw [← hS] at HP2
      clear hS HP T0
      go_wp2_with fail
      rename World => wv
      go_loopw [3, 6] (fun lv i wr => ∃ gs : List Value, gs.length ≤ vs.length ∧ i = .int .i64 gs.length ∧ Hid (P2 B ob S vs L w gs lv wr)) (fun _ i _ => vs.length - (intOf i).toNat)
      case atStart => exact ⟨[], by simp, rfl, HP2⟩
      case round =>
        obtain ⟨gs, hgl, rfl, HP⟩ := hrel
        clear HP2
        by_cases hlt : gs.length < vs.length
        · have hlt' : (gs.length : Int) < (vs.length : Int) := by omega
          have hc := HP.out.cell gs.length hlt
          go_wp2_with fail
          have HLi : Hid (L gs.length ≤ 1000000) := HL.out _
          have T1 : Hid (Ob 5 B wr vs[gs.length] (st gs.length (L gs.length + 0)) ∧ Rel S vs[gs.length] vs[gs.length] (L gs.length) (L gs.length + 0) ∧ Gf gs u3 S vs[gs.length]) :=
            ⟨HP.out.el _ hlt, rel_self (HP.out.el _ hlt) (st_len _ _), fun k hk hS => by have := HP.out.vS _ hlt k hk; omega⟩
          clear hc
          rename World => wu
          go_loopw [7, 8] (fun g k wr => ∃ m : Nat, m ≤ 9 ∧ k = .int .i64 m ∧ Hid (P2 B ob S vs L w gs u3 wr) ∧ Hid (Ob 5 B wr g (st gs.length (L gs.length + m)) ∧ Rel S vs[gs.length] g (L gs.length) (L gs.length + m) ∧ Gf gs u3 S g)) (fun _ k _ => 9 - (intOf k).toNat)
          case atStart => exact ⟨0, by omega, rfl, HP, T1⟩
          case round =>
            obtain ⟨m, hm, rfl, HQ, HG⟩ := hrel
            have hc := HQ.out.cell gs.length hlt
            by_cases hlm : m < 9
            · have hlm' : (m : Int) < 9 := by omega
              have hli := HLi.out
              obtain ⟨a, cc, ea⟩ := own_slice (HQ.out.el gs.length hlt)
              rw [st_len] at ea
              rw [ea] at hc
              have HST : Hid (Calls Tryz.prog 46 #[.int .i64 gs.length, .int .i64 ((L gs.length : Int) + (m : Int))] wr fun e w' => e = .returned (.int .u8 ((stm gs.length (L gs.length + m)).toNat : Int)) ∧ wr = w') := stamp_any wr gs.length (L gs.length + m) (by omega) (by omega)
              have HEX := Hid.mk' ((HQ.out.up (up_alloc wr (.cells #[.int .u8 ((stm gs.length (L gs.length + m)).toNat : Int)] 5))).grow (n := L gs.length + m) (m := 1) hlt (HG.out.1.alloc _) HG.out.2.1 HG.out.2.2 (one_bs (stm gs.length (L gs.length + m))) (by decide) (by omega) (by omega) (fun j hj e => by rw [Nat.mod_eq_of_lt (by omega)] at e; omega) HS.out)
              clear ea
              go_wp2_with fail
              refine HST.out.mono ?_
              rintro e w2 ⟨rfl, rfl⟩
              obtain ⟨g', w2, hr, hP, hO, hR, hF⟩ := HEX.out
              have HP5 := Hid.mk' hP
              have HG5 := Hid.mk' (show Ob 5 B w2 g' (st gs.length (L gs.length + (m + 1))) ∧ Rel S vs[gs.length] g' (L gs.length) (L gs.length + (m + 1)) ∧ Gf gs u3 S g' from ⟨hO, hR, hF⟩)
              clear HEX HST hP hO hR hF hc
              go_wp2_with (at_builtin; go_must (refine wpl_appat rfl (.tmp 52) (.tmp 62) 22 rfl rfl rfl hr ?_))
              go_roundw
              case rel => exact ⟨m + 1, by omega, by go_num, HP5, HG5⟩
              case measure => simp [intOf]; omega
            · obtain rfl : m = 9 := by omega
              obtain ⟨ga, gc, eg⟩ := own_slice HG.out.1
              rw [st_len] at eg
              subst eg
              have hmod : gs.length % vs.length = gs.length := Nat.mod_eq_of_lt hlt
              have hP1 := HQ.out.up (up_alloc wr (.cells #[.slice ga (L gs.length + 9) gc] 22))
              obtain ⟨lv', w2, hr, hown, hgr, _, _⟩ := run_app (P := Tryz.prog) (w := wr.alloc (.cells #[.slice ga (L gs.length + 9) gc] 22)) 45 45 Tryz.underlying45 Tryz.info22 rfl (by decide) hP1.lg (row_one (w := wr) (x := .slice ga (L gs.length + 9) gc) (e := 22)) (fun u hu => by simp at hu; subst hu; rfl) (by unfold maxLen; omega) (by omega) hP1.sz
              have HP5 := Hid.mk' (hP1.push' hgr hown hlt hmod (by unfold tl; rw [hmod, if_pos hlt]) (HG.out.1.alloc _) HG.out.2.1)
              clear hP1 hown hgr hmod hc T1 HLi
              go_wp2_with (at_builtin; go_must (refine wpl_appat rfl (.tmp 64) (.tmp 66) 45 rfl rfl rfl hr ?_))
              go_roundw
              case rel => exact ⟨gs ++ [.slice ga (L gs.length + 9) gc], by rw [List.length_append]; simp; omega, by rw [List.length_append]; go_num, HP5⟩
              case measure => simp [intOf]; omega
        · have hge : gs.length = vs.length := by omega
          have hlt' : ¬ (gs.length : Int) < (vs.length : Int) := by omega
          go_wp2_with fail
          have hmk := fun W : World => run_mk (P := Tryz.prog) 22 Tryz.underlying22 (by kernel_rfl) 33 (by decide) W
          have hmk : ∀ W : World, (Instr.makeSlice 22 (.int .i64 33) (.int .i64 33)).run Tryz.prog W = .ok (.slice (some ⟨W.heap.size, 0, none⟩) 33 33) (W.alloc (.cells (zeros 33) 5)) := hmk
          rename World => ws
          go_loopw [3, 9] (fun lv i wr => ∃ (i' : Nat) (hs : List Value), i' ≤ vs.length ∧ hs.length = vs.length + i' ∧ i = .int .i64 i' ∧ Hid (P2 B ob S vs L w hs lv wr)) (fun _ i _ => vs.length - (intOf i).toNat)
          case atStart => exact ⟨0, gs, by omega, by omega, rfl, HP⟩
          case round =>
            clear HP
            obtain ⟨i, hs, hi2, hhs, rfl, HP⟩ := hrel
            have HHS := Hid.mk' hhs
            clear hhs
            by_cases hlt : i < vs.length
            · have hlt' : (i : Int) < (vs.length : Int) := by omega
              have hm1 := hmk wr
              clear hmk
              go_wp2_with fail
              rename World => wt
              have HB0 := Hid.mk' (up_alloc wt (.cells (zeros 33) 5))
              have HO0 : Hid (Ob 5 wt.heap.size (wt.alloc (.cells (zeros 33) 5)) (.slice (some ⟨wt.heap.size, 0, none⟩) 33 33) (tcl i (L i) 0)) := by rw [tcl_zero]; exact ob_zeros 33 (by decide) wt 5
              have HLi : Hid (L i ≤ 1000000) := HL.out _
              clear hm1
              go_loopw [11] (fun k wr => ∃ m : Nat, m ≤ 33 ∧ k = .int .i64 m ∧ Hid (Below wt.heap.size wt wr) ∧ Hid (Ob 5 wt.heap.size wr (.slice (some ⟨wt.heap.size, 0, none⟩) 33 33) (tcl i (L i) m))) (fun k _ => 33 - (intOf k).toNat)
              case atStart => exact ⟨0, by omega, rfl, HB0, HO0⟩
              case round =>
                obtain ⟨m, hm, rfl, HB, HO⟩ := hrel
                have HQ := Hid.mk' (HP.out.up HB.out)
                have hc := HQ.out.cell i hlt
                obtain ⟨a, cc, ea⟩ := own_slice (HQ.out.el i hlt)
                rw [st_len] at ea
                by_cases hlm : m < 33
                · have hlm' : (m : Int) < 33 := by omega
                  have hli := HLi.out
                  rw [ea] at hc
                  have HST : Hid (Calls Tryz.prog 46 #[.int .i64 i, .int .i64 ((L i : Int) + (m : Int))] wr fun e w' => e = .returned (.int .u8 ((stm i (L i + m)).toNat : Int)) ∧ wr = w') := stamp_any wr i (L i + m) (by omega) (by omega)
                  obtain ⟨z, hc1⟩ : ∃ z, wr.cell? ⟨wt.heap.size, m, none⟩ = some z := ⟨_, HO.out.cell m (by rw [tcl_len]; exact hlm)⟩
                  have hf1 := HO.out.frozen m
                  have HO5 := Hid.mk' (HO.out.set m (stm i (L i + m)))
                  rw [tcl_set] at HO5
                  have HB5 := Hid.mk' (HB.out.trans ((Wb.set (X := fun j => j = wt.heap.size) wr wt.heap.size m (.int .u8 ((stm i (L i + m)).toNat : Int)) rfl).below HB.out.size fun j hj => by subst hj; exact Nat.le_refl _))
                  clear ea
                  go_wp2_with fail
                  refine HST.out.mono ?_
                  rintro e w2 ⟨rfl, rfl⟩
                  go_wp2_with fail
                  go_roundw
                  case rel => exact ⟨m + 1, by omega, by go_num, HB5, HO5⟩
                  case measure => simp [intOf]; omega
                · obtain rfl : m = 33 := by omega
                  have hli := HLi.out
                  have hidx : hs.length % vs.length = i := by rw [HHS.out, Nat.add_mod_left]; exact Nat.mod_eq_of_lt hlt
                  obtain ⟨h', w2, hr, hP, hO, hR, hF⟩ := HQ.out.grow (A := Lt wr.heap.size) (u := .slice (some ⟨wt.heap.size, 0, none⟩) 33 33) (n := L i) (m := 33) hlt (HQ.out.el i hlt) (rel_self (HQ.out.el i hlt) (st_len _ _)) (fun k hk hS => by have := HQ.out.vS i hlt k hk; omega) (by rw [← tcl_end]; exact HO.out.bs (by rw [tcl_len]; decide)) (by decide) (by omega) (Nat.le_refl _) (fun j hj e => by unfold tl; rw [e]; split <;> omega) HS.out
                  obtain ⟨ha, hcc, eh⟩ := own_slice hO
                  rw [st_len] at eh
                  subst eh
                  have hP1 := hP.up (up_alloc w2 (.cells #[.slice ha (L i + 33) hcc] 22))
                  obtain ⟨lv', w5, hr2, hown, hgr, _, _⟩ := run_app (P := Tryz.prog) (w := w2.alloc (.cells #[.slice ha (L i + 33) hcc] 22)) 45 45 Tryz.underlying45 Tryz.info22 rfl (by decide) hP1.lg (row_one (w := w2) (x := .slice ha (L i + 33) hcc) (e := 22)) (fun u hu => by simp at hu; subst hu; rfl) (by unfold maxLen; have := HHS.out; omega) (by have := HHS.out; omega) hP1.sz
                  have HP5 := Hid.mk' (hP1.push' hgr hown hlt hidx (by unfold tl; rw [hidx, if_neg (by rw [HHS.out]; omega)]) (hO.alloc _) hR)
                  rw [ea] at hc hr
                  clear hP hP1 hown hgr hidx hO hR hF ea
                  go_wp2_with (at_builtin; first | refine wpl_appat rfl (.tmp 95) (.tmp 96) 22 rfl rfl rfl hr ?_ | refine wpl_appat rfl (.tmp 91) (.tmp 98) 45 rfl rfl rfl hr2 ?_)
                  go_roundw
                  case rel => exact ⟨i + 1, hs ++ [.slice ha (L i + 33) hcc], by omega, by rw [List.length_append, HHS.out]; simp; omega, by go_num, HP5⟩
                  case measure => simp [intOf]; omega
            · obtain rfl : i = vs.length := by omega
              have hlt' : ¬ ((vs.length : Nat) : Int) < (vs.length : Int) := by omega
              go_wp2_with fail
              obtain ⟨la, lc, el⟩ := own_slice HP.out.lg
              have hh2 : hs.length = vs.length + vs.length := HHS.out
              have hrw := Row.of_own HP.out.lg
              rw [hh2] at el hrw
              have HRW := Hid.mk' hrw
              clear hrw
              subst el
              have HFB := Hid.mk' HP.out.bl
              rename World => wz
              go_loopw [12] (fun i wr => ∃ i' : Nat, i' ≤ hs.length ∧ i = .int .i64 i' ∧ Hid (Dn wz wr)) (fun i _ => hs.length - (intOf i).toNat)
              case atStart => exact ⟨0, by omega, rfl, Dn.refl _⟩
              case round =>
                obtain ⟨i, hi3, rfl, HD⟩ := hrel
                by_cases hlt : i < hs.length
                · have hlt' : (i : Int) < (vs.length : Int) + (vs.length : Int) := by omega
                  obtain ⟨_, _, hce, _, _, HC0⟩ := HRW.out.at1
                  cases hce
                  obtain ⟨b, o, hb1, _, hb3⟩ := HC0 i (by omega)
                  subst hb1
                  have HNP : 0 < vs.length := by omega
                  have hmod := Nat.mod_lt i HNP
                  obtain ⟨ho, _⟩ := HP.out.ge i hlt hmod
                  have HO := Hid.mk' ho
                  obtain ⟨ga, gc, eg⟩ := own_slice ho
                  rw [st_len] at eg
                  rw [List.getElem?_eq_getElem hlt, eg] at hb3
                  rw [eg] at HO
                  have HTL : Hid (tl L vs.length i ≤ 2000000) := by
                    show _ ≤ _
                    have := HL.out (i % vs.length)
                    unfold tl; split <;> omega
                  have hb4 := cell_later (HD.out.below _) hb3
                  have hb3' := hb3
                  clear ho hb3 HC0
                  generalize tl L vs.length i = tn at *
                  go_wp2_with fail
                  rename World => wy
                  go_loopw [13] (fun k wr => ∃ m : Nat, m ≤ tn ∧ k = .int .i64 m ∧ Hid (Dn wz wr)) (fun k _ => tn - (intOf k).toNat)
                  case atStart => exact ⟨0, by omega, rfl, HD⟩
                  case round =>
                    obtain ⟨m, hm, rfl, HE⟩ := hrel
                    have hb5 := cell_later (HE.out.below _) hb3'
                    by_cases hlm : m < tn
                    · have hlm' : (m : Int) < (tn : Int) := by omega
                      have htn2 := HTL.out
                      obtain ⟨g, cap, e6⟩ := HO.out.form (by rw [st_len]; omega)
                      rw [st_len] at e6
                      cases e6
                      have hu := HO.out.cell m (by rw [st_len]; exact hlm)
                      have hsx : (st (i % vs.length) tn)[m]'(by rw [st_len]; exact hlm) = stm (i % vs.length) m := by simp [st]
                      rw [hsx] at hu
                      have hu1 := cell_later (HE.out.below _) hu
                      have HC : Hid (∀ n, Calls Tryz.prog 46 #[.int .i64 ((i : Int) % (vs.length : Int)), .int .i64 m] (wr.drewN n) fun e w' => e = .returned (.int .u8 ((stm (i % vs.length) m).toNat : Int)) ∧ Dn (wr.drewN n) w') := fun n => by
                        have h5 := stamp_any (wr.drewN n) (i % vs.length) m (by omega) (by omega)
                        rw [Int.natCast_emod] at h5
                        exact h5.mono fun e w' ⟨h1, h2⟩ => ⟨h1, h2 ▸ Dn.refl _⟩
                      have hpos1 : (1 : Int) ≤ (vs.length : Int) := by omega
                      have hnz : ((vs.length : Int) == 0) = false := by rw [beq_eq_false_iff_ne]; omega
                      have t1 := Int.emod_lt_of_pos (i : Int) (b := (vs.length : Int)) (by omega)
                      have t2 := Int.emod_nonneg (i : Int) (b := (vs.length : Int)) (by omega)
                      clear hsx hu
                      go_wp2_with fail
                      go_quiet ((go_at_call 46; exact quiet_dn (HC.out _)))
                      go_wp2_with fail
                      go_roundw
                      case rel => exact ⟨m + 1, by omega, by go_num, HE.out.more _⟩
                      case measure => simp [intOf]; omega
                    · obtain rfl : m = tn := by omega
                      go_wp2_with fail
                      go_roundw
                      case rel => exact ⟨i + 1, by omega, by go_num, HE⟩
                      case measure => simp [intOf]; omega
                · obtain rfl : i = hs.length := by omega
                  have hlt' : ¬ ((hs.length : Nat) : Int) < (vs.length : Int) + (vs.length : Int) := by omega
                  go_wp2_with fail
                  go_ret
                  exact ⟨rfl, HFB.out.dn HD.out⟩
theorem apart_any {B ob : Nat} {w : World} {vs : List Value} {F : Nat → List UInt8} (hob : w.heap[ob]? = some (.cells vs.toArray 22 (0, 0))) (hel : ∀ j (h : j < vs.length), Ob 5 B w vs[j] (F j))
    (hsep : ∀ a b (ha : a < vs.length) (hb : b < vs.length), a ≠ b → ∀ k, vs[a].ownBlock = some k → vs[b].ownBlock ≠ some k) (hB : B ≤ w.heap.size) (hN : vs.length ≤ 79) (hL : ∀ j, (F j).length ≤ 1000000) :
    Calls Tryz.prog 20 #[.slice (some ⟨ob, 0, none⟩) vs.length vs.length] w fun e w' => e = .returned (.bool true) ∧ Below B w w' :=
  (apart_fm hob hel hsep hB hN hL).mono fun _ _ h => ⟨h.1, h.2.1⟩
end Go.Proofs.YtbmhkdcmepfmbaaGreat
