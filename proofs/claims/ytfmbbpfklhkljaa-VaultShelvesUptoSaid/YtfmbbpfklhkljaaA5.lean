/- The form of a node: leaf.Check and its parts. -/
import Derived.Test.YtfmbbpfklhkljaaA4
set_option linter.unusedVariables false
set_option linter.unusedSimpArgs false
namespace Go.Proofs.Ytfmbbpfklhkljaa
open Go.RowKit
def long (m : Nat) (l : List (List UInt8)) : Bool := l.any fun x => decide (m < x.length)
def badKid (k : Int) : Bool := decide (k < 0) || decide (65535 < k)
def asc : List (List UInt8) → Bool
  | x :: y :: l => decide (cmp x y < 0) && asc (y :: l)
  | _ => true
theorem asc_iff : ∀ (l : List (List UInt8)), asc l = true ↔ ∀ i (h : i + 1 < l.length), cmp (l[i]'(by omega)) l[i + 1] < 0
  | [] => by simp [asc]
  | [x] => by simp [asc]
  | x :: y :: l => by
    rw [asc, Bool.and_eq_true, decide_eq_true_eq, asc_iff (y :: l)]
    refine ⟨fun ⟨h1, h2⟩ i hi => ?_, fun h => ⟨h 0 (by simp), fun i hi => h (i + 1) (by simp at hi ⊢; omega)⟩⟩
    cases i with
    | zero => exact h1
    | succ i => exact h2 i (by simp at hi ⊢; omega)
def formed (n : Nd) : Bool := asc n.keys && if n.leaf then n.vals.length == n.keys.length && n.kids.length == 0 else !n.kids.any badKid && n.vals.length == 0 && n.kids.length == n.keys.length + 1
def check (n : Nd) : Int := if long 64 n.keys || long 128 n.vals then 2 else if formed n then 0 else 3
theorem any_take {α : Type} (p : α → Bool) (l : List α) (k : Nat) (h : k < l.length) : (l.take (k + 1)).any p = ((l.take k).any p || p l[k]) := by
  rw [List.take_succ_eq_append_getElem h, List.any_append]; simp
theorem any_of_get {α : Type} (p : α → Bool) (l : List α) (k : Nat) (h : k < l.length) (hp : p l[k] = true) : l.any p = true := List.any_eq_true.2 ⟨_, List.getElem_mem h, hp⟩
set_option maxHeartbeats 400000 in
theorem c65 {A : Nat → Prop} {w : World} {x : Value} {l : List UInt8} {b m : Nat} (h : Bs A w x l) (hm : w.cell? ⟨b, 0, none⟩ = some (.int .i64 m)) : Calls Try.prog 65 #[x, .pointer (some ⟨b, 0, none⟩)] w fun e w' => e = .returned (.bool (decide (m < l.length))) ∧ w = w' := by
  obtain ⟨a, c, rfl, _, _, _⟩ := h.at
  clear h
  go_enter Try.func65, Try.ntmps65
  go_wp2
  go_ret
  exact ⟨by simp, rfl⟩
set_option maxHeartbeats 400000 in
/-- IndexFunc with that -/
theorem c94 {A : Nat → Prop} {w : World} {v : Value} {l : List (List UInt8)} {b m : Nat} (h : Bss A w v l) (hm : w.cell? ⟨b, 0, none⟩ = some (.int .i64 m)) :
    Calls Try.prog 94 #[v, .func (.func 65) #[] #[.pointer (some ⟨b, 0, none⟩)]] w fun e w' => ∃ k : Int, e = .returned (.int .i64 k) ∧ decide (0 ≤ k) = long m l ∧ w = w' := by
  obtain ⟨a, c, rfl, hc, _, H⟩ := h.at
  have H : Hid _ := H
  have hlim : l.length * 24 ≤ 140737488351232 := by obtain ⟨_, _, _, h3⟩ := h; exact h3
  clear h
  go_enter Try.func94, Try.ntmps94
  go_wp2_with fail
  go_loop [8] (fun i => ∃ k : Nat, k ≤ l.length ∧ i = .int .i64 k ∧ Hid (long m (l.take k) = false)) (fun i => l.length - (intOf i).toNat)
  case atStart => exact ⟨0, by omega, rfl, Hid.mk' (by simp [long])⟩
  case round =>
    obtain ⟨k, hk, rfl, HL⟩ := hrel
    by_cases hlt : k < l.length
    · have hlt' : (k : Int) < (l.length : Int) := by omega
      have hl' : (l.length : Int) ≤ 140737488351232 := by omega
      obtain ⟨b', o, x, rfl, _, hu, hx⟩ := H.out k hlt
      have HC := Hid.mk' (c65 hx hm)
      have HT := Hid.mk' (any_take (fun x : List UInt8 => decide (m < x.length)) l k hlt)
      have HA := Hid.mk' (any_of_get (fun x : List UInt8 => decide (m < x.length)) l k hlt)
      clear hx
      generalize l[k] = y at *
      cases hd : decide (m < y.length) with
      | true =>
        rw [hd] at HC
        have HA2 := Hid.mk' (HA.out hd)
        clear hd
        go_wp2_with fail
        refine HC.out.mono ?_
        rintro e w' ⟨rfl, rfl⟩
        go_wp2_with fail
        go_ret
        exact ⟨_, rfl, by simp [long]; simpa using HA2.out, rfl⟩
      | false =>
        rw [hd] at HC
        have HT2 : Hid (long m (l.take (k + 1)) = false) := by show _ = _; rw [long, HT.out, hd, Bool.or_false]; exact HL.out
        clear hd
        go_wp2_with fail
        refine HC.out.mono ?_
        rintro e w' ⟨rfl, rfl⟩
        go_wp2_with fail
        go_round
        case rel => exact ⟨k + 1, by omega, by go_num, HT2⟩
        case measure => simp [intOf]; omega
    · obtain rfl : k = l.length := by omega
      have HL2 : Hid (long m l = false) := by have := HL.out; rwa [List.take_length] at this
      go_wp2_with fail
      go_ret
      exact ⟨_, rfl, by rw [HL2.out]; rfl, rfl⟩
set_option maxHeartbeats 400000 in
/-- ContainsFunc with that -/
theorem c66 {A : Nat → Prop} {w : World} {v : Value} {l : List (List UInt8)} {b m : Nat} (h : Bss A w v l) (hm : w.cell? ⟨b, 0, none⟩ = some (.int .i64 m)) :
    Calls Try.prog 66 #[v, .func (.func 65) #[] #[.pointer (some ⟨b, 0, none⟩)]] w fun e w' => e = .returned (.bool (long m l)) ∧ w = w' := by
  have HC := Hid.mk' (c94 h hm)
  clear h hm
  go_enter Try.func66, Try.ntmps66
  go_wp2_with fail
  refine HC.out.mono ?_
  rintro e w' ⟨k, rfl, hk, rfl⟩
  have hk := Hid.mk' hk
  go_wp2_with fail
  go_ret
  exact ⟨rfl, rfl⟩
/-- the closure's maker -/
theorem c64 (m : Nat) (w : World) : Calls Try.prog 64 #[.int .i64 m] w fun e w' => e = .returned (.func (.func 65) #[] #[.pointer (some ⟨w.heap.size, 0, none⟩)]) ∧ w' = w.alloc (.cells #[.int .i64 m] 3) := by
  have hmf : ∀ (fn : Fn) (first cap : Array Value) (w : World), (Instr.makeFunc fn first cap).run Try.prog w = .ok (.func fn first cap) w := fun _ _ _ _ => rfl
  go_enter Try.func64, Try.ntmps64
  go_wp2
  go_ret
  exact ⟨rfl, rfl⟩
set_option maxHeartbeats 400000 in
theorem c96 (k : Int) (w : World) : Calls Try.prog 96 #[.int .i64 k] w fun e w' => e = .returned (.bool (badKid k)) ∧ w = w' := by
  have HB : Hid (badKid k = (decide (k < 0) || decide (65535 < k))) := rfl
  by_cases h : k < 0
  · have h' : decide (k < 0) = true := by simp [h]
    have HB2 : Hid (badKid k = true) := by show _ = _; rw [HB.out, h']; rfl
    go_enter Try.func96, Try.ntmps96
    go_wp2
    go_ret
    exact ⟨ret_b (by rw [HB2.out]), rfl⟩
  · have h' : decide (k < 0) = false := by simp; omega
    have HB2 : Hid (badKid k = decide (65535 < k)) := by show _ = _; rw [HB.out, h']; rfl
    go_enter Try.func96, Try.ntmps96
    go_wp2
    go_ret
    exact ⟨ret_b (by rw [HB2.out]), rfl⟩
set_option maxHeartbeats 400000 in
theorem c112 {A : Nat → Prop} {w : World} {v : Value} {l : List Int} (h : Is A w v l) :
    Calls Try.prog 112 #[v, .func (.func 96) #[] #[]] w fun e w' => ∃ k : Int, e = .returned (.int .i64 k) ∧ decide (0 ≤ k) = l.any badKid ∧ w = w' := by
  have hlim : l.length * 8 ≤ 140737488351232 := h.2.1
  obtain ⟨a, c, rfl, hc, _, H⟩ := h.at
  have H : Hid _ := H
  clear h
  go_enter Try.func112, Try.ntmps112
  go_wp2_with fail
  go_loop [8] (fun i => ∃ k : Nat, k ≤ l.length ∧ i = .int .i64 k ∧ Hid ((l.take k).any badKid = false)) (fun i => l.length - (intOf i).toNat)
  case atStart => exact ⟨0, by omega, rfl, Hid.mk' (by simp)⟩
  case round =>
    obtain ⟨k, hk, rfl, HL⟩ := hrel
    by_cases hlt : k < l.length
    · have hlt' : (k : Int) < (l.length : Int) := by omega
      have hl' : (l.length : Int) ≤ 140737488351232 := by omega
      obtain ⟨b', o, rfl, _, hu⟩ := H.out k hlt
      have HC := Hid.mk' (c96 l[k])
      have HT := Hid.mk' (any_take badKid l k hlt)
      have HA := Hid.mk' (any_of_get badKid l k hlt)
      generalize l[k] = y at *
      cases hd : badKid y with
      | true =>
        rw [hd] at HC
        have HA2 := Hid.mk' (HA.out hd)
        clear hd
        go_wp2_with fail
        refine (HC.out _).mono ?_
        rintro e w' ⟨rfl, rfl⟩
        go_wp2_with fail
        go_ret
        exact ⟨_, rfl, by simp [HA2.out], rfl⟩
      | false =>
        rw [hd] at HC
        have HT2 : Hid ((l.take (k + 1)).any badKid = false) := by show _ = _; rw [HT.out, hd, Bool.or_false]; exact HL.out
        clear hd
        go_wp2_with fail
        refine (HC.out _).mono ?_
        rintro e w' ⟨rfl, rfl⟩
        go_wp2_with fail
        go_round
        case rel => exact ⟨k + 1, by omega, by go_num, HT2⟩
        case measure => simp [intOf]; omega
    · obtain rfl : k = l.length := by omega
      have HL2 : Hid (l.any badKid = false) := by have := HL.out; rwa [List.take_length] at this
      go_wp2_with fail
      go_ret
      exact ⟨_, rfl, by rw [HL2.out]; rfl, rfl⟩
set_option maxHeartbeats 400000 in
theorem c95 {A : Nat → Prop} {w : World} {v : Value} {l : List Int} (h : Is A w v l) :
    Calls Try.prog 95 #[v, .func (.func 96) #[] #[]] w fun e w' => e = .returned (.bool (l.any badKid)) ∧ w = w' := by
  have HC := Hid.mk' (c112 h)
  clear h
  go_enter Try.func95, Try.ntmps95
  go_wp2_with fail
  refine HC.out.mono ?_
  rintro e w' ⟨k, rfl, hk, rfl⟩
  go_wp2_with fail
  go_ret
  exact ⟨rfl, rfl⟩
end Go.Proofs.Ytfmbbpfklhkljaa
