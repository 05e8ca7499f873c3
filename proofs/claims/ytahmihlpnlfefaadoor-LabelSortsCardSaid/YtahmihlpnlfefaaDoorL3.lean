/- Walks of layer 2: how pieces compare. -/
import Derived.Test.YtahmihlpnlfefaaDoorL2
set_option linter.unusedVariables false
set_option linter.unusedSimpArgs false
namespace Go.Proofs.YtahmihlpnlfefaaDoor
open Go.RowKit
open PL
theorem row_two {w : World} {x y : Value} {e : TypeId} : Row 1 (Lt (w.heap.size + 1)) (w.alloc (.cells #[x, y] e)) (.slice (some ⟨w.heap.size, 0, none⟩) 2 2) 2 [x, y] := by
  refine ⟨rfl, _, _, rfl, Nat.le_refl _, by simp, fun j u hj => ⟨_, _, rfl, Nat.lt_succ_self _, ?_⟩⟩
  match j, hj with
  | 0, hj => simp at hj; subst hj; simp
  | 1, hj => simp at hj; subst hj; simp
theorem numC_int (a b : List UInt8) : numC a b = orI (ic a.length b.length) (cmp a b) := by
  unfold numC both natC orI ic; simp only [Int.ofNat_lt]
set_option maxRecDepth 100000 in
set_option maxHeartbeats 1000000 in
/-- label.pieces -/
theorem pieces_any (p q : List UInt8) (hp : 0 < p.length) (hq : 0 < q.length) (hpm : p.length ≤ maxLen) (hqm : q.length ≤ maxLen) (w : World) : Calls Tryd.prog 34 #[.string ⟨p.toArray⟩, .string ⟨q.toArray⟩] w fun e w' => e = .returned (.int .i64 (pieceC p q)) ∧ Below w.heap.size w w' := by
  have hp' : (0 : Int) < (p.length : Int) := by omega
  have hq' : (0 : Int) < (q.length : Int) := by omega
  have hC : pieceC p q = if dgt p[0] && dgt q[0] then numC (numb p) (numb q) else natC p[0].toNat q[0].toNat := by
    cases p with
    | nil => simp at hp
    | cons a p => cases q with
      | nil => simp at hq
      | cons b q => rfl
  have hn : natC p[0].toNat q[0].toNat = ic p[0].toNat q[0].toNat := by
    unfold natC ic; simp only [Int.ofNat_lt]
  cases d1 : dgt p[0]
  · rw [d1] at hC
    have D1 := Hid.mk' d1
    have HC : Hid (pieceC p q = ic p[0].toNat q[0].toNat) := by show _ = _; rw [hC, ← hn]; simp
    clear d1 hC hn
    go_enter Tryd.func34, Tryd.ntmps34
    go_wp2_with (go_at_call 29; go_must (refine (digit_f p[0] D1.out _).mono ?_; rintro e w' ⟨rfl, rfl⟩))
    go_quiet ((go_at_call 52; exact quiet_flip (cmpByte_any (p[0].toNat : Int) (q[0].toNat : Int) _)))
    go_wp2
    go_ret
    exact ⟨by rw [HC.out]; rfl, ((Dn.refl w).more _).below _⟩
  · cases d2 : dgt q[0]
    · rw [d1, d2] at hC
      have D1 := Hid.mk' d1
      have D2 := Hid.mk' d2
      have HC : Hid (pieceC p q = ic p[0].toNat q[0].toNat) := by show _ = _; rw [hC, ← hn]; simp
      clear d1 d2 hC hn
      go_enter Tryd.func34, Tryd.ntmps34
      go_wp2_with fail
      refine (digit_t p[0] D1.out _).mono ?_
      rintro e w' ⟨rfl, rfl⟩
      go_wp2_with fail
      refine (digit_f q[0] D2.out _).mono ?_
      rintro e w' ⟨rfl, rfl⟩
      go_wp2_with fail
      go_quiet ((go_at_call 52; exact quiet_flip (cmpByte_any (p[0].toNat : Int) (q[0].toNat : Int) _)))
      go_wp2
      go_ret
      exact ⟨by rw [HC.out]; rfl, ((Dn.refl w).more _).below _⟩
    · rw [d1, d2] at hC
      have D1 := Hid.mk' d1
      have D2 := Hid.mk' d2
      have HC : Hid (pieceC p q = numC (numb p) (numb q)) := by show _ = _; rw [hC]; simp
      clear d1 d2 hC hn
      go_enter Tryd.func34, Tryd.ntmps34
      go_wp2_with fail
      refine (digit_t p[0] D1.out _).mono ?_
      rintro e w' ⟨rfl, rfl⟩
      go_wp2_with fail
      refine (digit_t q[0] D2.out _).mono ?_
      rintro e w' ⟨rfl, rfl⟩
      go_wp2_with fail
      refine (trimLeft0_any p hpm _).mono ?_
      rintro e w' ⟨rfl, rfl⟩
      go_wp2_with fail
      refine (trimLeft0_any q hqm _).mono ?_
      rintro e w' ⟨rfl, rfl⟩
      go_wp2_with fail
      refine (cmpInt_any _ _ _).mono ?_
      rintro e w' ⟨rfl, rfl⟩
      have HN := Hid.mk' (numC_int (numb p) (numb q))
      generalize ic (numb p).length (numb q).length = x at *
      go_wp2_with fail
      refine (strCmp_any (numb p) (numb q) _).mono ?_
      rintro e w' ⟨rfl, rfl⟩
      go_wp2_with fail
      refine (or_any _ _ _ _ row_two).mono ?_
      rintro e w' ⟨rfl, rfl⟩
      go_wp2_with fail
      go_ret
      exact ⟨by rw [HC.out, HN.out]; rfl, up_alloc _ _⟩
end Go.Proofs.YtahmihlpnlfefaaDoor
