/- Walks: plain, IndexByte, escaped. -/
import Derived.Test.YtahmihlpnlfefaaDoorL7
import Derived.Test.YtahmihlpnlfefaaDoorL4
import Derived.Lib.Bytealg
set_option linter.unusedVariables false
set_option linter.unusedSimpArgs false
namespace Go.Proofs.YtahmihlpnlfefaaDoor
open Go.RowKit
open PL
set_option maxHeartbeats 1000000 in
/-- label.plain -/
theorem plain_any (c : UInt8) (w : World) : Calls Tryd.prog 44 #[.int .u8 (c.toNat : Int)] w fun e w' => e = .returned (.bool (plain c)) ∧ w = w' := by
  by_cases h1 : 32 ≤ c.toNat
  · have h1' : (32 : Int) ≤ c.toNat := by omega
    by_cases h2 : c.toNat ≤ 126
    · have h2' : (c.toNat : Int) ≤ 126 := by omega
      by_cases h3 : c = 34
      · subst h3
        go_enter Tryd.func44, Tryd.ntmps44
        go_wp2_with fail
        go_ret
        exact ⟨rfl, rfl⟩
      · have e3 : ((c.toNat : Int) != 34) = true := by
          rw [bne_iff_ne]; intro e; exact h3 (UInt8.toNat_inj.1 (show c.toNat = 34 by omega))
        by_cases h4 : c = 92
        · subst h4
          go_enter Tryd.func44, Tryd.ntmps44
          go_wp2_with fail
          go_ret
          exact ⟨rfl, rfl⟩
        · have e4 : ((c.toNat : Int) != 92) = true := by
            rw [bne_iff_ne]; intro e; exact h4 (UInt8.toNat_inj.1 (show c.toNat = 92 by omega))
          have HR : Hid (plain c = true) := by show _ = _; unfold plain; simp [h1, h2, h3, h4]
          clear h3 h4
          go_enter Tryd.func44, Tryd.ntmps44
          go_wp2_with fail
          go_ret
          exact ⟨ret_b (by rw [HR.out]), rfl⟩
    · have h2' : (126 : Int) < c.toNat := by omega
      have HR : Hid (plain c = false) := by show _ = _; unfold plain; simp [h2]
      go_enter Tryd.func44, Tryd.ntmps44
      go_wp2_with fail
      go_ret
      exact ⟨ret_b (by rw [HR.out]), rfl⟩
  · have h1' : (c.toNat : Int) < 32 := by omega
    have HR : Hid (plain c = false) := by show _ = _; unfold plain; simp [h1]
    go_enter Tryd.func44, Tryd.ntmps44
    go_wp2_with fail
    go_ret
    exact ⟨ret_b (by rw [HR.out]), rfl⟩
theorem ext89 (s : ByteArray) (c : Int) (w : World) : (callFunc 89 #[.string s, .int .u8 c]).run Tryd.prog w = .ok (.value (.int .i64 (Lib.indexByte s.data.toList c.toNat.toUInt8))) w := by
  rw [run_callFunc_extern Tryd.func89 (by kernel_rfl) (by kernel_rfl) (by kernel_rfl) (e := Extern.BytealgIndexByte.indexByte) (by kernel_rfl), Lib.run_indexByteString]
  rfl
theorem indexByte_any (s : ByteArray) (c : Int) (w : World) :
    Calls Tryd.prog 65 #[.string s, .int .u8 c] w fun e w' => e = .returned (.int .i64 (Lib.indexByte s.data.toList c.toNat.toUInt8)) ∧ w = w' := by
  have h0 := ext89
  go_enter Tryd.func65, Tryd.ntmps65
  go_wp2
  go_ret
  exact ⟨rfl, rfl⟩
def digs : List UInt8 := [48, 49, 50, 51, 52, 53, 54, 55, 56, 57, 97, 98, 99, 100, 101, 102]
def hxI (c : UInt8) : Int := match hx c with
  | some x => x
  | none => -1
theorem hxI_idx (c : UInt8) : Lib.indexByte digs c = hxI c := by
  have h : ∀ n : Fin 256, Lib.indexByte digs (UInt8.ofNat n.val) = hxI (UInt8.ofNat n.val) := by decide +kernel
  have := h ⟨c.toNat, c.toNat_lt⟩
  simpa using this
theorem idx_any (c : UInt8) (w : World) : Calls Tryd.prog 65 #[.string ⟨#[48, 49, 50, 51, 52, 53, 54, 55, 56, 57, 97, 98, 99, 100, 101, 102]⟩, .int .u8 (c.toNat : Int)] w fun e w' => e = .returned (.int .i64 (hxI c)) ∧ w = w' := by
  have := indexByte_any ⟨digs.toArray⟩ (c.toNat : Int) w
  have h2 : (c.toNat : Int).toNat.toUInt8 = c := by simp
  rw [h2] at this
  have h3 : Lib.indexByte (⟨digs.toArray⟩ : ByteArray).data.toList c = hxI c := hxI_idx c
  rw [h3] at this
  exact this
/-- what is left of an escape behind its first k bytes, n reckoned so far -/
def er : Nat → Nat → List UInt8 → Except Int (UInt8 × Nat)
  | 3, n, _ => if 32 ≤ n ∧ n ≤ 126 then .error 3 else .ok (UInt8.ofNat n, 3)
  | _, _, [] => .error 5
  | 0, _, c :: r => if c ≠ 120 then .error 3 else er 1 0 r
  | k + 1, n, c :: r => match hx c with
    | none => .error 3
    | some x => er (k + 2) (n * 16 + x) r
theorem esc_er (c : UInt8) (r : List UInt8) (h1 : c ≠ 34) (h2 : c ≠ 92) : esc (c :: r) = er 0 0 (c :: r) := by
  unfold esc
  dsimp only
  rw [if_neg (by simp [h1, h2])]
  by_cases h : c ≠ 120
  · rw [if_pos h, er, if_pos h]
  · rw [if_neg h, er, if_neg h]
    cases r with
    | nil => simp [er]
    | cons d r =>
      simp only [er]
      cases hx d with
      | none => rfl
      | some x =>
        cases r with
        | nil => simp [er]
        | cons e r =>
          simp only [er]
          cases hx e with
          | none => rfl
          | some y => simp only [Option.some.injEq, Nat.zero_mul, Nat.zero_add]; rw [er]
theorem er_none {k n : Nat} {c : UInt8} {r : List UInt8} (hk : 1 ≤ k) (hk3 : k < 3) (h : hx c = none) : er k n (c :: r) = .error 3 := by
  have : k = 1 ∨ k = 2 := by omega
  rcases this with e | e <;> subst e <;> simp [er, h]
theorem er_some {k n x : Nat} {c : UInt8} {r : List UInt8} (hk : 1 ≤ k) (hk3 : k < 3) (h : hx c = some x) : er k n (c :: r) = er (k + 1) (n * 16 + x) r := by
  have : k = 1 ∨ k = 2 := by omega
  rcases this with e | e <;> subst e <;> simp [er, h]
theorem bor (n x : Nat) (hn : n < 16) (hx : x < 16) : bits BinOp.or .i64 ((n : Int) * 16) (bits BinOp.and .i64 (x : Int) 15) = ((n * 16 + x : Nat) : Int) := by
  have h : ∀ a b : Fin 16, bits BinOp.or .i64 ((a.val : Int) * 16) (bits BinOp.and .i64 (b.val : Int) 15) = ((a.val * 16 + b.val : Nat) : Int) := by decide +kernel
  exact h ⟨n, hn⟩ ⟨x, hx⟩
theorem ofNat_lt (n : Nat) (h : n < 256) : (UInt8.ofNat n).toNat = n := by simp; omega
theorem plain_n (n : Nat) (h : n < 256) (w : World) : Calls Tryd.prog 44 #[.int .u8 (n : Int)] w fun e w' => e = .returned (.bool (plain (UInt8.ofNat n))) ∧ w = w' := by
  have := plain_any (UInt8.ofNat n) w
  rw [ofNat_lt n h] at this; exact this
theorem plain_of (n : Nat) (h : n < 256) : plain (UInt8.ofNat n) = (decide (32 ≤ n ∧ n ≤ 126) && n != 34 && n != 92) := by
  have h1 : ∀ a : Fin 256, plain (UInt8.ofNat a.val) = (decide (32 ≤ a.val ∧ a.val ≤ 126) && a.val != 34 && a.val != 92) := by decide +kernel
  exact h1 ⟨n, h⟩
theorem esc_q (s : List UInt8) (hp : 0 < s.length) (c : UInt8) (hc : c = 34 ∨ c = 92) (h : s[0] = c) : esc s = .ok (c, 1) := by
  cases s with
  | nil => simp at hp
  | cons a r =>
    have : a = c := h
    subst this
    unfold esc; simp [hc]
def escV (o : Except Int (UInt8 × Nat)) : Value := match o with
  | .ok (b, n) => .tuple #[.int .u8 (b.toNat : Int), .int .i64 (n : Int), .int .i64 0]
  | .error e => .tuple #[.int .u8 0, .int .i64 0, .int .i64 e]
theorem hx_bd {c : UInt8} {x : Nat} (h : hx c = some x) : x < 16 := (dgx_hx c x h).2
theorem hxI_none {c : UInt8} (h : hx c = none) : hxI c = -1 := by unfold hxI; rw [h]
theorem hxI_some {c : UInt8} {x : Nat} (h : hx c = some x) : hxI c = x := by unfold hxI; rw [h]
set_option maxRecDepth 100000 in
set_option maxHeartbeats 4000000 in
/-- label.escaped -/
theorem escaped_any (s : List UInt8) (hm : s.length ≤ maxLen) (w : World) : Calls Tryd.prog 45 #[.string ⟨s.toArray⟩] w fun e w' => e = .returned (escV (esc s)) ∧ w = w' := by
  unfold maxLen at hm
  by_cases h0 : s = []
  · subst h0
    go_enter Tryd.func45, Tryd.ntmps45
    go_wp2_with fail
    go_ret3
    exact ⟨rfl, rfl⟩
  · obtain ⟨n1, n2, n3⟩ := ne_facts h0
    have n3' : (0 : Int) < (s.length : Int) := by omega
    by_cases h34 : s[0] = 34
    · have HR : Hid (esc s = .ok (34, 1)) := esc_q s n3 34 (by simp) h34
      have hg : ∀ h, ((⟨s.toArray⟩ : ByteArray)[0]'h).toNat = 34 := fun _ => by show s[0].toNat = _; rw [h34]; rfl
      clear h0 h34
      go_enter Tryd.func45, Tryd.ntmps45
      go_wp2_with fail
      go_ret3
      exact ⟨by rw [HR.out]; rfl, rfl⟩
    · have e34 : ((((⟨s.toArray⟩ : ByteArray)[0]'n3).toNat : Int) == 34) = false := by
        rw [beq_eq_false_iff_ne]; intro e; exact h34 (UInt8.toNat_inj.1 (show s[0].toNat = 34 from Int.ofNat.inj e))
      by_cases h92 : s[0] = 92
      · have HR : Hid (esc s = .ok (92, 1)) := esc_q s n3 92 (by simp) h92
        have hg : ∀ h, ((⟨s.toArray⟩ : ByteArray)[0]'h).toNat = 92 := fun _ => by show s[0].toNat = _; rw [h92]; rfl
        clear h0 h34 h92 e34
        go_enter Tryd.func45, Tryd.ntmps45
        go_wp2_with fail
        go_ret3
        exact ⟨by rw [HR.out]; rfl, rfl⟩
      · have e92 : ((((⟨s.toArray⟩ : ByteArray)[0]'n3).toNat : Int) == 92) = false := by
          rw [beq_eq_false_iff_ne]; intro e; exact h92 (UInt8.toNat_inj.1 (show s[0].toNat = 92 from Int.ofNat.inj e))
        have HE : Hid (esc s = er 0 0 s) := by
          show _ = _
          have h1 := esc_er s[0] (s.drop 1) h34 h92
          have h2 : s[0] :: s.drop 1 = s := by have := List.drop_eq_getElem_cons n3; simpa using this.symm
          rw [h2] at h1; exact h1
        clear h0 h34 h92
        go_enter Tryd.func45, Tryd.ntmps45
        go_wp2_with fail
        go_loopw [21, 5] (fun u21 u5 wr => ∃ k n : Nat, k ≤ 3 ∧ k ≤ s.length ∧ u21 = .int .i64 k ∧ u5 = .int .i64 n ∧ Eqw w wr ∧ n < 256 ∧ (k < 3 → n < 16) ∧ (k ≤ 1 → n = 0) ∧ Hid (esc s = er k n (s.drop k))) (fun u21 _ _ => 3 - (intOf u21).toNat)
        case atStart => exact ⟨0, 0, by omega, by omega, rfl, rfl, Eqw.refl _, by omega, by omega, by omega, HE⟩
        case round =>
          obtain ⟨k, n, hk3, hkl, rfl, rfl, hw, hn, hn16, hn0, HI⟩ := hrel
          obtain rfl : w = wr := hw
          by_cases hlt : k < 3
          · have hlt' : (k : Int) < 3 := by omega
            by_cases he : k = s.length
            · have HR : Hid (esc s = .error 5) := by
                show _ = _
                rw [HI.out, List.drop_of_length_le (by omega)]
                have : k = 0 ∨ k = 1 ∨ k = 2 := by omega
                rcases this with h | h | h <;> rw [h] <;> rfl
              have he' : ((k : Int) == (s.length : Int)) = true := by simp [he]
              clear he
              go_wp2_with fail
              go_ret3
              exact ⟨by rw [HR.out]; rfl, rfl⟩
            · have hkl2 : k < s.length := by omega
              have hkl' : (k : Int) < (s.length : Int) := by omega
              have he' : ((k : Int) == (s.length : Int)) = false := by simp; omega
              have hd := List.drop_eq_getElem_cons hkl2
              have HX := Hid.mk' (idx_any s[k])
              clear he
              by_cases hk0 : k = 0
              · subst hk0
                obtain rfl : n = 0 := hn0 (by omega)
                by_cases h120 : s[0] = 120
                · have HN : Hid (esc s = er 1 0 (s.drop 1)) := by show _ = _; rw [HI.out, hd, er, if_neg (by simpa using h120)]
                  have hxi : hxI s[0] = -1 := by rw [h120]; rfl
                  rw [hxi] at HX
                  have H120 := Hid.mk' h120
                  clear h120 hxi hd
                  go_wp2_with fail
                  refine (HX.out _).mono ?_
                  rintro e w' ⟨rfl, rfl⟩
                  have hb : ((((⟨s.toArray⟩ : ByteArray)[0]'n3).toNat : Int) != 120) = false := by
                    rw [bne_eq_false_iff_eq]; show (s[0].toNat : Int) = 120; rw [H120.out]; rfl
                  go_wp2_with fail
                  go_roundw
                  case rel => exact ⟨1, 0, by omega, by omega, rfl, rfl, Eqw.refl _, by omega, by omega, by omega, HN⟩
                  case measure => simp [intOf]
                · have HR : Hid (esc s = .error 3) := by show _ = _; rw [HI.out, hd, er, if_pos (by simpa using h120)]
                  have hb : ((((⟨s.toArray⟩ : ByteArray)[0]'n3).toNat : Int) != 120) = true := by
                    rw [bne_iff_ne]; intro e; exact h120 (UInt8.toNat_inj.1 (show s[0].toNat = 120 from Int.ofNat.inj e))
                  generalize hxI s[0] = j at *
                  clear h120 hd
                  go_wp2_with fail
                  refine (HX.out _).mono ?_
                  rintro e w' ⟨rfl, rfl⟩
                  go_wp2_with fail
                  go_ret3
                  exact ⟨by rw [HR.out]; rfl, rfl⟩
              · have hk0' : ((k : Int) == 0) = false := by simp; omega
                have hk0'' : (0 : Int) < (k : Int) := by omega
                cases hx0 : hx s[k] with
                | none =>
                  have HR : Hid (esc s = .error 3) := by
                    show _ = _
                    rw [HI.out, hd, er_none (by omega) hlt hx0]
                  rw [hxI_none hx0] at HX
                  clear hx0 hd
                  go_wp2_with fail
                  refine (HX.out _).mono ?_
                  rintro e w' ⟨rfl, rfl⟩
                  go_wp2_with fail
                  go_ret3
                  exact ⟨by rw [HR.out]; rfl, rfl⟩
                | some x =>
                  have hx16 := hx_bd hx0
                  have HN : Hid (esc s = er (k + 1) (n * 16 + x) (s.drop (k + 1))) := by
                    show _ = _
                    rw [HI.out, hd, er_some (by omega) hlt hx0]
                  rw [hxI_some hx0] at HX
                  clear hx0 hd
                  go_wp2_with fail
                  refine (HX.out _).mono ?_
                  rintro e w' ⟨rfl, rfl⟩
                  go_wp2_with fail
                  have hbo := bor n x (hn16 hlt) hx16
                  rw [hbo]
                  go_roundw
                  case rel => exact ⟨k + 1, n * 16 + x, by omega, by omega, by go_num, rfl, Eqw.refl _, by have := hn16 hlt; omega, (fun h => by have : n = 0 := hn0 (by omega); omega), by omega, HN⟩
                  case measure => simp [intOf]; omega
          · have hk : k = 3 := by omega
            subst hk
            have hw8 : IntKind.u8.wrap (n : Int) = (n : Int) := by rw [IntKind.wrap_u8]; omega
            have HP := Hid.mk' (plain_n n hn)
            have hpl := plain_of n hn
            have hes := HI.out
            rw [er] at hes
            by_cases hr : 32 ≤ n ∧ n ≤ 126
            · rw [if_pos hr] at hes
              have HR := Hid.mk' hes
              by_cases h34' : n = 34
              · subst h34'
                rw [show plain (UInt8.ofNat 34) = false from by decide] at HP
                clear hpl hes
                go_wp2_with fail
                refine (HP.out _).mono ?_
                rintro e w' ⟨rfl, rfl⟩
                go_wp2_with fail
                go_ret3
                exact ⟨by rw [HR.out]; rfl, rfl⟩
              · by_cases h92' : n = 92
                · subst h92'
                  rw [show plain (UInt8.ofNat 92) = false from by decide] at HP
                  clear hpl hes
                  go_wp2_with fail
                  refine (HP.out _).mono ?_
                  rintro e w' ⟨rfl, rfl⟩
                  go_wp2_with fail
                  go_ret3
                  exact ⟨by rw [HR.out]; rfl, rfl⟩
                · rw [hpl] at HP
                  rw [show (decide (32 ≤ n ∧ n ≤ 126) && n != 34 && n != 92) = true from by simp [hr, h34', h92']] at HP
                  clear hpl hes h34' h92'
                  go_wp2_with fail
                  refine (HP.out _).mono ?_
                  rintro e w' ⟨rfl, rfl⟩
                  go_wp2_with fail
                  go_ret3
                  exact ⟨by rw [HR.out]; rfl, rfl⟩
            · rw [if_neg hr] at hes
              have HR := Hid.mk' hes
              have q1 : ((n : Int) == 34) = false := by rw [beq_eq_false_iff_ne]; omega
              have q2 : ((n : Int) == 92) = false := by rw [beq_eq_false_iff_ne]; omega
              rw [hpl] at HP
              rw [show (decide (32 ≤ n ∧ n ≤ 126) && n != 34 && n != 92) = false from by simp [hr]] at HP
              have HO := Hid.mk' (ofNat_lt n hn)
              clear hpl hes
              go_wp2_with fail
              refine (HP.out _).mono ?_
              rintro e w' ⟨rfl, rfl⟩
              go_wp2_with fail
              go_ret3
              exact ⟨by rw [HR.out]; simp only [escV, HO.out]; rfl, rfl⟩
end Go.Proofs.YtahmihlpnlfefaaDoor
