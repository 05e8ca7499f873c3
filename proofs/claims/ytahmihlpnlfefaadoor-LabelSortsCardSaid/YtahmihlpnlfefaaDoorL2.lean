/- Walks of layer 2: pieces; the library's small functions. -/
import Derived.Test.YtahmihlpnlfefaaDoorL1
import Derived.Lib.Bytealg
set_option linter.unusedVariables false
set_option linter.unusedSimpArgs false
namespace Go.Proofs.YtahmihlpnlfefaaDoor
open Go.RowKit
open PL
theorem tw_iff (s : List UInt8) (k : Nat) (h : k ≤ (s.takeWhile dgt).length) (hk : k < s.length) : dgt s[k] = true ↔ k < (s.takeWhile dgt).length := by
  constructor
  · intro hd
    by_cases he : k = (s.takeWhile dgt).length
    · exfalso
      have h1 : s.drop k = s.dropWhile dgt := by
        have := List.takeWhile_append_dropWhile (p := dgt) (l := s)
        conv => lhs; rw [← this, he, List.drop_left]
      have h2 : s.drop k = s[k] :: s.drop (k + 1) := List.drop_eq_getElem_cons hk
      have h3 := List.head?_dropWhile_not dgt s
      rw [← h1, h2] at h3
      simp [List.getElem?_eq_getElem hk, hd] at h3
    · omega
  · intro hl
    have : (s.takeWhile dgt)[k]? = s[k]? := by
      have := List.takeWhile_append_dropWhile (p := dgt) (l := s)
      conv => rhs; rw [← this, List.getElem?_append_left hl]
    have h2 : (s.takeWhile dgt)[k] = s[k] := by
      rw [List.getElem?_eq_getElem hl, List.getElem?_eq_getElem hk] at this
      exact Option.some.inj this
    rw [← h2]
    exact List.all_eq_true.1 (List.all_takeWhile (p := dgt) (l := s)) _ (List.getElem_mem hl)
set_option maxRecDepth 100000 in
set_option maxHeartbeats 1000000 in
/-- label.piece -/
theorem piece_any (s : List UInt8) (hs : s ≠ []) (hm : s.length ≤ maxLen) (w : World) : Calls Tryd.prog 33 #[.string ⟨s.toArray⟩] w fun e w' => e = .returned (.tuple #[.string ⟨(s.take (pcN s)).toArray⟩, .string ⟨(s.drop (pcN s)).toArray⟩]) ∧ Dn w w' := by
  have hp : 0 < s.length := by cases s <;> simp at hs ⊢
  unfold maxLen at hm
  have hr1 : pcN s ≤ s.length := by
    have := (List.takeWhile_prefix (p := dgt) (l := s)).length_le
    unfold pcN; omega
  have hr2 := pcN_pos s
  go_enter Tryd.func33, Tryd.ntmps33
  go_wp2
  go_loopw [4] (fun i wr => ∃ k : Nat, k ≤ s.length ∧ i = .int .i64 k ∧ Eqw w wr ∧ Hid (k ≤ (s.takeWhile dgt).length)) (fun i _ => s.length - (intOf i).toNat)
  case atStart => exact ⟨0, by omega, rfl, Eqw.refl _, Nat.zero_le _⟩
  case round =>
    obtain ⟨k, hk, rfl, hw, HT⟩ := hrel
    obtain rfl : w = wr := hw
    by_cases hlt : k < s.length
    · have hi := tw_iff s k HT.out hlt
      cases hg : dgt s[k]
      · have he : (s.takeWhile dgt).length = k := by
          have := HT.out; rw [hg] at hi; simp at hi; omega
        have hr : pcN s = max 1 k := by unfold pcN; rw [he]
        by_cases h1 : 1 ≤ k
        · have HR : Hid (pcN s = k) := by show _ = _; omega
          have HG := Hid.mk' hg
          have h1' : (1 : Int) ≤ (k : Int) := by omega
          clear hg hi he hr h1
          go_wp2_with (go_at_call 29; go_must (refine (digit_f s[k] HG.out _).mono ?_; rintro e w' ⟨rfl, rfl⟩))
          go_quiet (fail)
          go_wp2
          go_ret2
          exact ⟨by rw [HR.out, ← ba_take, ← ba_drop]; simp, by repeat (first | exact Dn.refl _ | apply Dn.more)⟩
        · have HR : Hid (pcN s = 1) := by show _ = _; omega
          have HG := Hid.mk' hg
          have h1' : (k : Int) < 1 := by omega
          have hp' : (1 : Int) ≤ (s.length : Int) := by omega
          clear hg hi he hr h1
          go_wp2_with (go_at_call 29; go_must (refine (digit_f s[k] HG.out _).mono ?_; rintro e w' ⟨rfl, rfl⟩))
          go_quiet (fail)
          go_wp2
          go_ret2
          exact ⟨by rw [HR.out, ← ba_take, ← ba_drop]; simp, by repeat (first | exact Dn.refl _ | apply Dn.more)⟩
      · have HL : Hid (k + 1 ≤ (s.takeWhile dgt).length) := Hid.mk' (hi.1 hg)
        have HG := Hid.mk' hg
        clear hg hi
        go_wp2_with (go_at_call 29; go_must (refine (digit_t s[k] HG.out _).mono ?_; rintro e w' ⟨rfl, rfl⟩))
        go_roundw
        case rel => exact ⟨k + 1, by omega, by go_num, Eqw.refl _, HL⟩
        case measure => simp [intOf]; omega
    · have he : (s.takeWhile dgt).length = k := by
        have := HT.out
        have := (List.takeWhile_prefix (p := dgt) (l := s)).length_le
        omega
      have hr : pcN s = max 1 k := by unfold pcN; rw [he]
      have h1 : (1 : Int) ≤ (k : Int) := by omega
      have HR : Hid (pcN s = k) := by show _ = _; omega
      have hk' : (s.length : Int) ≤ k := by omega
      clear he hr
      go_wp2
      go_quiet (fail)
      go_wp2
      go_ret2
      exact ⟨by rw [HR.out, ← ba_take, ← ba_drop]; simp, by repeat (first | exact Dn.refl _ | apply Dn.more)⟩
def orI (a b : Int) : Int := if a ≠ 0 then a else b
/-- three ways -/
def ic (a b : Int) : Int := if a < b then -1 else if b < a then 1 else 0
set_option maxHeartbeats 1000000 in
/-- cmp.Compare at int -/
theorem cmpInt_any (a b : Int) (w : World) : Calls Tryd.prog 35 #[.int .i64 a, .int .i64 b] w fun e w' => e = .returned (.int .i64 (ic a b)) ∧ w = w' := by
  unfold ic
  by_cases h1 : a < b
  · rw [if_pos h1]
    go_enter Tryd.func35, Tryd.ntmps35
    go_wp2
    go_ret
    exact ⟨rfl, rfl⟩
  · rw [if_neg h1]
    by_cases h2 : b < a
    · rw [if_pos h2]
      go_enter Tryd.func35, Tryd.ntmps35
      go_wp2
      go_ret
      exact ⟨rfl, rfl⟩
    · rw [if_neg h2]
      go_enter Tryd.func35, Tryd.ntmps35
      go_wp2
      go_ret
      exact ⟨rfl, rfl⟩
set_option maxHeartbeats 1000000 in
/-- cmp.Compare at byte -/
theorem cmpByte_any (a b : Int) (w : World) : Calls Tryd.prog 52 #[.int .u8 a, .int .u8 b] w fun e w' => e = .returned (.int .i64 (ic a b)) ∧ w = w' := by
  unfold ic
  by_cases h1 : a < b
  · rw [if_pos h1]
    go_enter Tryd.func52, Tryd.ntmps52
    go_wp2
    go_ret
    exact ⟨rfl, rfl⟩
  · rw [if_neg h1]
    by_cases h2 : b < a
    · rw [if_pos h2]
      go_enter Tryd.func52, Tryd.ntmps52
      go_wp2
      go_ret
      exact ⟨rfl, rfl⟩
    · rw [if_neg h2]
      go_enter Tryd.func52, Tryd.ntmps52
      go_wp2
      go_ret
      exact ⟨rfl, rfl⟩
theorem cmp_compareBytes : ∀ (l m : List UInt8), Lib.compareBytes l m = cmp l m
  | [], [] => rfl
  | [], _ :: _ => rfl
  | _ :: _, [] => rfl
  | x :: l, y :: m => by simp only [Lib.compareBytes, cmp, UInt8.lt_iff_toNat_lt, cmp_compareBytes l m]
theorem ext69 (a b : List UInt8) (w : World) : (callFunc 69 #[.string ⟨a.toArray⟩, .string ⟨b.toArray⟩]).run Tryd.prog w = .ok (.value (.int .i64 (cmp a b))) w := by
  rw [run_callFunc_extern Tryd.func69 (by kernel_rfl) (by kernel_rfl) (by kernel_rfl) (e := Extern.BytealgCompare.compare) (by kernel_rfl), Lib.run_compareString, cmp_compareBytes]
  rfl
set_option maxHeartbeats 1000000 in
/-- strings.Compare -/
theorem strCmp_any (a b : List UInt8) (w : World) : Calls Tryd.prog 36 #[.string ⟨a.toArray⟩, .string ⟨b.toArray⟩] w fun e w' => e = .returned (.int .i64 (cmp a b)) ∧ w = w' := by
  have h0 := ext69 a b
  go_enter Tryd.func36, Tryd.ntmps36
  go_wp2
  go_ret
  exact ⟨rfl, rfl⟩
def strLen (v : Value) : Nat := match v with | .string s => s.size | _ => 0
set_option maxRecDepth 100000 in
set_option maxHeartbeats 1000000 in
theorem trimLeftByte_any (s : List UInt8) (c : UInt8) (hm : s.length ≤ maxLen) (w : World) : Calls Tryd.prog 57 #[.string ⟨s.toArray⟩, .int .u8 (c.toNat : Int)] w fun e w' => e = .returned (.string ⟨(s.dropWhile (· == c)).toArray⟩) ∧ w = w' := by
  unfold maxLen at hm
  go_enter Tryd.func57, Tryd.ntmps57
  go_wp2
  go_loopw [0] (fun v wr => ∃ x : List UInt8, v = .string ⟨x.toArray⟩ ∧ x.length ≤ s.length ∧ Eqw w wr ∧ Hid (s.dropWhile (· == c) = x.dropWhile (· == c))) (fun v _ => strLen v)
  case atStart => exact ⟨s, rfl, Nat.le_refl _, Eqw.refl _, Hid.mk' rfl⟩
  case round =>
    obtain ⟨x, rfl, hx, hw, HX⟩ := hrel
    obtain rfl : w = wr := hw
    cases x with
    | nil =>
      go_wp2
      go_ret
      exact ⟨ret_s (by rw [HX.out]; rfl), rfl⟩
    | cons y r =>
      by_cases hy : y = c
      · subst hy
        have HR : Hid (s.dropWhile (· == y) = r.dropWhile (· == y)) := by show _ = _; rw [HX.out, List.dropWhile_cons, if_pos (by simp)]
        have hg : ∀ h, ((⟨(y :: r).toArray⟩ : ByteArray)[0]'h).toNat = y.toNat := fun _ => rfl
        have hl : ((y :: r).length : Int) = r.length + 1 := by simp
        have hd := ba_drop (y :: r) 1
        simp only [List.length_cons, List.drop_succ_cons, List.drop_zero] at hd
        clear HX
        go_wp2
        go_roundw
        case rel => exact ⟨r, by rw [← hd], by simp at hx; omega, Eqw.refl _, HR⟩
        case measure => simp [strLen, ByteArray.size]
      · have HR : Hid (s.dropWhile (· == c) = y :: r) := by show _ = _; rw [HX.out, List.dropWhile_cons, if_neg (by simpa using hy)]
        have hne : ((y.toNat : Int) == (c.toNat : Int)) = false := by rw [beq_eq_false_iff_ne]; intro e; exact hy (UInt8.toNat_inj.1 (by omega))
        have hg : ∀ h, ((⟨(y :: r).toArray⟩ : ByteArray)[0]'h).toNat = y.toNat := fun _ => rfl
        clear HX hy
        go_wp2
        go_ret
        exact ⟨ret_s HR.out.symm, rfl⟩
set_option maxRecDepth 100000 in
set_option maxHeartbeats 1000000 in
/-- strings.TrimLeft at the cutset "0" -/
theorem trimLeft0_any (s : List UInt8) (hm : s.length ≤ maxLen) (w : World) : Calls Tryd.prog 53 #[.string ⟨s.toArray⟩, .string ⟨#[48]⟩] w fun e w' => e = .returned (.string ⟨(numb s).toArray⟩) ∧ w = w' := by
  by_cases h0 : s = []
  · subst h0
    go_enter Tryd.func53, Tryd.ntmps53
    go_wp2_with fail
    go_ret
    exact ⟨rfl, rfl⟩
  · have hem : (s == []) = false := by cases s <;> simp at h0 ⊢
    have hem' : s.isEmpty = false := by cases s <;> simp at h0 ⊢
    go_enter Tryd.func53, Tryd.ntmps53
    go_wp2_with (go_at_call 57; go_must (refine (trimLeftByte_any s 48 hm _).mono ?_; rintro e w' ⟨rfl, rfl⟩))
    go_ret
    exact ⟨rfl, rfl⟩
set_option maxRecDepth 100000 in
set_option maxHeartbeats 1000000 in
/-- cmp.Or at two ints -/
theorem or_any {A : Nat → Prop} (v : Value) (a b : Int) (w : World) (h : Row 1 A w v 2 [.int .i64 a, .int .i64 b]) : Calls Tryd.prog 54 #[v] w fun e w' => e = .returned (.int .i64 (orI a b)) ∧ w = w' := by
  unfold orI
  obtain ⟨ad, c, rfl, hc, _, H⟩ := h.at1
  obtain ⟨o, f, rfl, _, h0⟩ := H 0 (by decide)
  obtain ⟨o', f', e, _, h1⟩ := H 1 (by decide)
  cases e
  simp at h0 h1
  clear H
  by_cases ha : a = 0
  · subst ha
    rw [if_neg (by simp)]
    by_cases hb : b = 0
    · subst hb
      go_enter Tryd.func54, Tryd.ntmps54
      go_wp2
      go_loopw [8] (fun i wr => (∃ k : Nat, k ≤ 2 ∧ i = .int .i64 k) ∧ Eqw w wr) (fun i _ => 2 - (intOf i).toNat)
      case atStart => exact ⟨⟨0, by omega, rfl⟩, Eqw.refl _⟩
      case round =>
        obtain ⟨⟨k, hk, rfl⟩, hw⟩ := hrel
        obtain rfl : w = wr := hw
        match k, hk with
        | 0, _ =>
          go_wp2
          go_roundw
          case rel => exact ⟨⟨1, by omega, rfl⟩, Eqw.refl _⟩
          case measure => simp [intOf]
        | 1, _ =>
          go_wp2
          go_roundw
          case rel => exact ⟨⟨2, by omega, rfl⟩, Eqw.refl _⟩
          case measure => simp [intOf]
        | 2, _ =>
          go_wp2
          go_ret
          exact ⟨rfl, rfl⟩
    · have hb' : (b == 0) = false := by simpa using hb
      go_enter Tryd.func54, Tryd.ntmps54
      go_wp2
      go_loopw [8] (fun i wr => (∃ k : Nat, k ≤ 1 ∧ i = .int .i64 k) ∧ Eqw w wr) (fun i _ => 2 - (intOf i).toNat)
      case atStart => exact ⟨⟨0, by omega, rfl⟩, Eqw.refl _⟩
      case round =>
        obtain ⟨⟨k, hk, rfl⟩, hw⟩ := hrel
        obtain rfl : w = wr := hw
        match k, hk with
        | 0, _ =>
          go_wp2
          go_roundw
          case rel => exact ⟨⟨1, by omega, rfl⟩, Eqw.refl _⟩
          case measure => simp [intOf]
        | 1, _ =>
          go_wp2
          go_ret
          exact ⟨rfl, rfl⟩
  · rw [if_pos ha]
    have ha' : (a == 0) = false := by simpa using ha
    go_enter Tryd.func54, Tryd.ntmps54
    go_wp2
    go_loopw [8] (fun i wr => i = .int .i64 0 ∧ Eqw w wr) (fun i _ => 0)
    case atStart => exact ⟨rfl, Eqw.refl _⟩
    case round =>
      obtain ⟨rfl, hw⟩ := hrel
      obtain rfl : w = wr := hw
      go_wp2
      go_ret
      exact ⟨rfl, rfl⟩
end Go.Proofs.YtahmihlpnlfefaaDoor
