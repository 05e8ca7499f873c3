/- Walks: numbers as texts; the library's entries. -/
import Derived.Test.YtojgkjpmphfakaaGreatDoorW1
import Derived.Lib.Bytealg
import Derived.Lib.BytesEntry
set_option linter.unusedVariables false
set_option linter.unusedSimpArgs false
namespace Go.Proofs.YtojgkjpmphfakaaGreatDoor
open Go.RowKit
def dg (d : Nat) : UInt8 := if d < 10 then UInt8.ofNat (48 + d) else UInt8.ofNat (87 + d)
def hex (n : Nat) : List UInt8 := (List.range 16).map fun j => dg (n / 16 ^ (15 - j) % 16)
def nb (n k : Nat) : List UInt8 := (List.range 16).map fun j => if 16 ≤ j + k then dg (n / 16 ^ (15 - j) % 16) else 0
theorem ext111 (s : ByteArray) (c : Int) (w : World) : (callFunc 93 #[.string s, .int .u8 c]).run Tryz.prog w = .ok (.value (.int .i64 (Lib.indexByte s.data.toList c.toNat.toUInt8))) w := by
  rw [run_callFunc_extern Tryz.func93 (by kernel_rfl) (by kernel_rfl) (by kernel_rfl) (e := Extern.BytealgIndexByte.indexByte) (by kernel_rfl), Lib.run_indexByteString]
  rfl
/-- strings.IndexByte -/
theorem indexByte_any (s : ByteArray) (c : Int) (w : World) :
    Calls Tryz.prog 60 #[.string s, .int .u8 c] w fun e w' => e = .returned (.int .i64 (Lib.indexByte s.data.toList c.toNat.toUInt8)) ∧ w = w' := by
  have h0 := ext111
  go_enter Tryz.func60, Tryz.ntmps60
  go_wp2
  go_ret
  exact ⟨rfl, rfl⟩
theorem nb_len (n k : Nat) : (nb n k).length = 16 := by simp [nb]
theorem nb_zero (n : Nat) : nb n 0 = List.replicate 16 0 := by
  apply List.ext_getElem
  · simp [nb]
  · intro i h1 h2
    simp [nb] at h1
    rw [List.getElem_replicate]
    simp only [nb, List.getElem_map, List.getElem_range]
    rw [if_neg (by omega)]
theorem nb_succ (n k : Nat) (hk : k < 16) : nb n (k + 1) = (nb n k).set (15 - k) (dg (n / 16 ^ k % 16)) := by
  apply List.ext_getElem
  · simp [nb]
  · intro i h1 h2
    simp only [nb, List.getElem_map, List.getElem_range, List.getElem_set]
    by_cases e : 15 - k = i
    · subst e
      rw [if_pos (by omega), if_pos rfl]
      have : 15 - (15 - k) = k := by omega
      rw [this]
    · rw [if_neg e]
      simp [nb] at h1
      by_cases h : 16 ≤ i + k
      · rw [if_pos (by omega), if_pos h]
      · rw [if_neg (by omega), if_neg h]
theorem nb_full (n : Nat) : nb n 16 = hex n := by
  simp [nb, hex]
theorem and15 (n k : Nat) (hn : n < 18446744073709551616) : bits BinOp.and .u64 ((n : Int) / 2 ^ (4 * k)) 15 = ((n / 16 ^ k % 16 : Nat) : Int) := by
  have e : ((n : Int) / 2 ^ (4 * k)) = ((n / 16 ^ k : Nat) : Int) := by
    rw [Int.natCast_ediv, Int.natCast_pow, show ((16 : Nat) : Int) = 2 ^ 4 from rfl, ← Int.pow_mul]
  have h : n / 16 ^ k < 18446744073709551616 := Nat.lt_of_le_of_lt (Nat.div_le_self _ _) hn
  rw [e, show (15 : Int) = ((15 : Nat) : Int) from rfl, u64_and_nat _ _ h (by decide), show (15 : Nat) = 2 ^ 4 - 1 from rfl, Nat.and_two_pow_sub_one_eq_mod]
theorem dig_get (d : Nat) (h : d < 16) : ((⟨#[48, 49, 50, 51, 52, 53, 54, 55, 56, 57, 97, 98, 99, 100, 101, 102]⟩ : ByteArray)[d]'h).toNat = (dg d).toNat := by
  have : ∀ d : Fin 16, ((⟨#[48, 49, 50, 51, 52, 53, 54, 55, 56, 57, 97, 98, 99, 100, 101, 102]⟩ : ByteArray)[d.val]'d.isLt).toNat = (dg d.val).toNat := by decide
  exact this ⟨d, h⟩
theorem mk16 (w : World) : (Instr.makeSlice 69 (.int .i64 16) (.int .i64 16)).run Tryz.prog w = .ok (.slice (some ⟨w.heap.size, 0, none⟩) 16 16) (w.alloc (.cells (zeros 16) 5)) :=
  run_mk 69 Tryz.underlying69 Tryz.info5 16 (by decide) w
set_option maxRecDepth 100000 in
set_option maxHeartbeats 400000 in
theorem number_any (n : Nat) (hn : n < 18446744073709551616) (w : World) :
    Calls Tryz.prog 29 #[.int .u64 n] w fun e w' => e = .returned (.string ⟨(hex n).toArray⟩) ∧ Below w.heap.size w w' := by
  have hn0 : (0 : Int) ≤ (n : Int) := by omega
  have HN : Hid (n < 18446744073709551616) := hn
  clear hn
  have h16 := mk16
  go_enter Tryz.func29, Tryz.ntmps29
  go_wp2
  go_loopw [8] (fun i wr => ∃ k : Nat, k ≤ 16 ∧ i = .int .i64 k ∧ Below w.heap.size w wr ∧ Ob 5 w.heap.size wr (.slice (some ⟨w.heap.size, 0, none⟩) 16 16) (nb n k)) (fun i _ => 16 - (intOf i).toNat)
  case atStart => exact ⟨0, by omega, rfl, (Below.refl _ _).alloc (Nat.le_refl _) _, by rw [nb_zero]; exact ob_zeros 16 (by decide) w 5⟩
  case round =>
    obtain ⟨k, hk, rfl, hb, ho⟩ := hrel
    have HO := Hid.mk' ho
    have HB := Hid.mk' hb
    have hsz := ho.len.2.2
    clear hb ho
    by_cases h1 : k < 16
    · have hc1 : wr.cell? ⟨w.heap.size, 15 - k, none⟩ = some (.int .u8 ((nb n k)[15 - k]'(by rw [nb_len]; omega)).toNat) := HO.out.cell (15 - k) (by rw [nb_len]; omega)
      have hc2 : wr.frozen? ⟨w.heap.size, 15 - k, none⟩ = false := HO.out.frozen _
      generalize hz : ((nb n k)[15 - k]'(by rw [nb_len]; omega)).toNat = z at hc1
      clear hz
      have HD : Hid (n / 16 ^ k % 16 = n / 16 ^ k % 16) := rfl
      have hd : n / 16 ^ k % 16 < 16 := Nat.mod_lt _ (by decide)
      have hA := and15 n k HN.out
      have HE := nb_succ n k h1
      generalize n / 16 ^ k % 16 = d at *
      have HS := Hid.mk' HE
      clear HE
      have hd0 : (0 : Int) ≤ (d : Int) := by omega
      have hdig := dig_get d hd
      go_wp2
      go_roundw
      case rel =>
        refine ⟨k + 1, by omega, by go_num, HB.out.setCell (Nat.le_refl _) _, ?_⟩
        rw [HS.out]
        exact HO.out.set _ _
      case measure => simp [intOf]; omega
    · have hk16 : Hid (k = 16) := by unfold Hid; omega
      have hs := run_str (P := Tryz.prog) 69 9 Tryz.underlying69 Tryz.underlying5 Tryz.underlying9 (HO.out.bs (by simp [nb_len, lim]))
      have hk' : (16 : Int) ≤ k := by omega
      go_wp2
      go_ret
      exact ⟨by rw [hk16.out, nb_full]; rfl, HB.out⟩

def digs : List UInt8 := [48, 49, 50, 51, 52, 53, 54, 55, 56, 57, 97, 98, 99, 100, 101, 102]
def idx (c : UInt8) : Int := Lib.indexByte digs c
def toN : List UInt8 → Nat → Option Nat
  | [], n => some n
  | c :: r, n => if idx c < 0 then none else toN r (n * 16 + (idx c).toNat)
def numV (s : List UInt8) : Option Nat := if s.length = 16 then toN s 0 else none
def numOut (o : Option Nat) : Value := match o with
  | some n => .tuple #[.int .u64 n, .bool true]
  | none => .tuple #[.int .u64 0, .bool false]
theorem idx_bd (c : UInt8) : -1 ≤ idx c ∧ idx c < 16 := by
  have h : ∀ n : Fin 256, -1 ≤ idx (UInt8.ofNat n.val) ∧ idx (UInt8.ofNat n.val) < 16 := by decide +kernel
  have := h ⟨c.toNat, c.toNat_lt⟩
  simpa using this
theorem idx_any (s : ByteArray) (c : Int) (j : Int) (w : World) (hs : s = ⟨digs.toArray⟩) (hj : idx c.toNat.toUInt8 = j) :
    Calls Tryz.prog 60 #[.string s, .int .u8 c] w fun e w' => e = .returned (.int .i64 j) ∧ w = w' := by
  subst hs; subst hj; exact indexByte_any _ _ _
theorem or16 (n m k : Nat) (hn : n < 16 ^ k) (hk : k < 16) (hm : m < 16) : bits BinOp.or .u64 (IntKind.u64.wrap ((n : Int) * 16)) (m : Int) = ((n * 16 + m : Nat) : Int) := by
  have h1 : 16 ^ k ≤ 16 ^ 15 := Nat.pow_le_pow_right (by decide) (by omega)
  have h2 : n < 1152921504606846976 := Nat.lt_of_lt_of_le hn h1
  rw [IntKind.wrap_u64, show ((n : Int) * 16) % 18446744073709551616 = ((n * 16 : Nat) : Int) from by omega, bits_or_u64_nat _ _ (by omega) (by omega)]
  have := Nat.two_pow_add_eq_or_of_lt (i := 4) (show m < 2 ^ 4 from hm) n
  rw [show n * 16 = 2 ^ 4 * n from by omega, ← this]
set_option maxRecDepth 100000 in
set_option maxHeartbeats 400000 in
theorem toNumber_any (s : List UInt8) (w : World) :
    Calls Tryz.prog 48 #[.string ⟨s.toArray⟩] w fun e w' => e = .returned (numOut (numV s)) ∧ w = w' := by
  by_cases h16 : s.length = 16
  · have hv : numV s = toN s 0 := if_pos h16
    rw [hv]
    clear hv
    have e16 : ((⟨s.toArray⟩ : ByteArray).size : Int) = 16 := by simp [ByteArray.size]; omega
    go_enter Tryz.func48, Tryz.ntmps48
    go_wp2
    go_loopw [4, 12] (fun v i wr => ∃ k n : Nat, k ≤ 16 ∧ i = .int .i64 k ∧ v = .int .u64 n ∧ w = wr ∧ Hid (n < 16 ^ k) ∧ Hid (toN s 0 = toN (s.drop k) n)) (fun _ i _ => 16 - (intOf i).toNat)
    case atStart => exact ⟨0, 0, by omega, rfl, rfl, rfl, Hid.mk' (by decide), rfl⟩
    case round =>
      obtain ⟨k, n, hk, rfl, rfl, rfl, HN, HT⟩ := hrel
      by_cases h1 : k < 16
      · have hk' : k < s.length := by omega
        have hd : s.drop k = s[k] :: s.drop (k + 1) := List.drop_eq_getElem_cons hk'
        have hbd := idx_bd s[k]
        have HT2 : toN s 0 = if idx s[k] < 0 then none else toN (s.drop (k + 1)) (n * 16 + (idx s[k]).toNat) := by rw [HT.out, hd]; rfl
        have HI : Hid (idx s[k] = idx s[k]) := rfl
        by_cases hj : idx s[k] < 0
        · rw [if_pos hj] at HT2
          have HJ : Hid (idx s[k] = -1) := by unfold Hid; omega
          have HT3 := Hid.mk' HT2
          clear HT2 hd hj hbd
          go_wp2_with (go_at_call 60; go_must (refine (idx_any _ _ (-1) _ rfl (by simp; exact HJ.out)).mono ?_; rintro e w' ⟨rfl, rfl⟩))
          go_ret2
          exact ⟨by rw [HT3.out]; rfl, rfl⟩
        · rw [if_neg hj] at HT2
          obtain ⟨m, hm⟩ := Int.eq_ofNat_of_zero_le (show 0 ≤ idx s[k] by omega)
          have hm16 : m < 16 := by omega
          rw [hm, Int.toNat_natCast] at HT2
          have HJ := Hid.mk' hm
          have HT3 := Hid.mk' HT2
          have hor := or16 n m k HN.out h1 hm16
          clear HT2 hd hj hbd hm
          go_wp2_with (go_at_call 60; go_must (refine (idx_any _ _ (m : Int) _ rfl (by simp; exact HJ.out)).mono ?_; rintro e w' ⟨rfl, rfl⟩))
          go_roundw
          case rel =>
            refine ⟨k + 1, n * 16 + m, by omega, by go_num, by go_num, (by first | rfl | trivial), ?_, HT3⟩
            have := HN.out
            show _ < 16 ^ (k + 1)
            rw [Nat.pow_succ]; omega
          case measure => simp [intOf]; omega
      · have hk16 : Hid (k = 16) := by unfold Hid; omega
        have hk' : (16 : Int) ≤ k := by omega
        have hz : toN s 0 = some n := by rw [HT.out, hk16.out, List.drop_of_length_le (by omega)]; rfl
        have HZ := Hid.mk' hz
        clear hz
        go_wp2
        go_ret2
        exact ⟨by rw [HZ.out]; rfl, rfl⟩
  · have hv : numV s = none := if_neg h16
    rw [hv]
    clear hv
    have e16 : ¬ ((⟨s.toArray⟩ : ByteArray).size : Int) = 16 := by simp [ByteArray.size]; omega
    go_enter Tryz.func48, Tryz.ntmps48
    go_wp2
    go_ret2
    exact ⟨rfl, rfl⟩

theorem ob_set {e : TypeId} {B g n cap : Nat} {w : World} {l : List UInt8} (h : Ob e B w (.slice (some ⟨g, 0, none⟩) n cap) l) (j : Nat) (x : UInt8) (y : Int) (hy : y = (x.toNat : Int)) : Ob e B (w.setCell ⟨g, j, none⟩ (.int .u8 y)) (.slice (some ⟨g, 0, none⟩) n cap) (l.set j x) := by
  subst hy; exact h.set j x
theorem or_ref (n : Nat) : dg (n % 16) = if 9 < n % 16 then UInt8.ofNat (87 + n % 16) else UInt8.ofNat (48 + n % 16) := by
  unfold dg; split <;> split <;> first | rfl | omega
theorem run_bytesOf {P : Program} {A : Nat → Prop} {w : World} {v : Value} {l : List UInt8} (h : Bs A w v l) : (Extern.Bytes.bytesOf v).run P w = .ok ⟨l.toArray⟩ w := by
  obtain ⟨a, c, rfl, hc, hn, H⟩ := h.at
  cases a with
  | none =>
    have : l = [] := by cases l with | nil => rfl | cons x r => obtain ⟨b, o, h, _⟩ := H 0 (by simp); cases h
    subst this; rfl
  | some p =>
    have hl := Lib.run_loadBytesX (P := P) w (l.map fun x => (x.toNat : Int)) p .empty (fun j x hj => by
      have hjl : j < l.length := by have := (List.getElem?_eq_some_iff.1 hj).1; simpa using this
      obtain ⟨b, o, hp, _, hu⟩ := H j hjl
      simp only [Option.some.injEq] at hp
      subst hp
      have e : (⟨b, o, none⟩ : Addr).add j = ⟨b, o + j, none⟩ := by unfold Addr.add; split <;> simp_all
      rw [e, hu]
      simp [hjl] at hj
      rw [hj])
    rw [List.length_map] at hl
    simp only [Extern.Bytes.bytesOf, hl]
    congr 1
    apply ByteArray.ext
    show (#[] : Array UInt8) ++ (Lib.bytesOf _).toArray = _
    simp [Lib.bytesOf, Function.comp_def]
theorem cmp_compareBytes : ∀ (l m : List UInt8), Lib.compareBytes l m = cmp l m
  | [], [] => rfl
  | [], _ :: _ => rfl
  | _ :: _, [] => rfl
  | x :: l, y :: m => by
    simp only [Lib.compareBytes, cmp, UInt8.lt_iff_toNat_lt, cmp_compareBytes l m]
end Go.Proofs.YtojgkjpmphfakaaGreatDoor
