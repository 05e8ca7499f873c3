/- Walks: the reference's Compare. -/
import Derived.Test.YtahmihlpnlfefaaDoorL6
import Derived.Test.YtahmihlpnlfefaaDoorL7
import Derived.Test.YtahmihlpnlfefaaDoorL8
set_option linter.unusedVariables false
set_option linter.unusedSimpArgs false
namespace Go.Proofs.YtahmihlpnlfefaaDoor
open Go.RowKit
open PL
set_option maxRecDepth 100000 in
set_option maxHeartbeats 1000000 in
/-- groyneref02.bytes -/
theorem bytes_any (p q : List UInt8) (hp : p.length ≤ lim) (hq : q.length ≤ lim) (w : World) : Calls Tryd.prog 38 #[.string ⟨p.toArray⟩, .string ⟨q.toArray⟩] w fun e w' => e = .returned (.int .i64 (cmp p q)) ∧ Below w.heap.size w w' := by
  obtain ⟨c1, w1, r1, o1, hc1, b1, z1⟩ := run_bytes (P := Tryd.prog) 9 31 Tryd.underlying9 Tryd.underlying31 Tryd.underlying5 p w
  obtain ⟨c2, w2, r2, o2, hc2, b2, z2⟩ := run_bytes (P := Tryd.prog) 9 31 Tryd.underlying9 Tryd.underlying31 Tryd.underlying5 q w1
  have B1 := Hid.mk' ((o1.keep b2 (by omega)).bs hc1 hp)
  have B2 := Hid.mk' (o2.bs hc2 hq)
  have HB := Hid.mk' (bt b1 b2)
  clear o1 o2 b1 b2 hp hq z1 z2
  go_enter Tryd.func38, Tryd.ntmps38
  go_wp2_with fail
  refine (cmp_any _ _ p q _ B1.out B2.out).mono ?_
  rintro e w3 ⟨rfl, hd⟩
  have HD := Hid.mk' hd
  clear hd
  go_wp2_with fail
  go_ret
  exact ⟨rfl, HB.out.trans (HD.out.below _)⟩
set_option maxRecDepth 100000 in
set_option maxHeartbeats 1000000 in
/-- groyneref02.number -/
theorem number_any (s : List UInt8) (hm : s.length ≤ maxLen) (w : World) : Calls Tryd.prog 39 #[.string ⟨s.toArray⟩] w fun e w' => e = .returned (.string ⟨(numb s).toArray⟩) ∧ w = w' := by
  unfold maxLen at hm
  go_enter Tryd.func39, Tryd.ntmps39
  go_wp2
  go_loopw [3] (fun i wr => ∃ k : Nat, k ≤ s.length ∧ i = .int .i64 k ∧ Eqw w wr ∧ Hid (numb s = numb (s.drop k))) (fun i _ => s.length - (intOf i).toNat)
  case atStart => exact ⟨0, by omega, rfl, Eqw.refl _, rfl⟩
  case round =>
    obtain ⟨k, hk, rfl, hw, HA⟩ := hrel
    obtain rfl : w = wr := hw
    have hd := ba_drop s k
    by_cases hlt : k < s.length
    · have hlt' : (k : Int) < (s.length : Int) := by omega
      have hs : numb (s.drop k) = if s[k] = 48 then numb (s.drop (k + 1)) else s.drop k := by
        rw [List.drop_eq_getElem_cons hlt]; unfold numb; rw [List.dropWhile_cons]; simp
      by_cases h48 : s[k] = 48
      · have HN : Hid (numb s = numb (s.drop (k + 1))) := by show _ = _; rw [HA.out, hs, if_pos h48]
        have h2 : ((⟨s.toArray⟩ : ByteArray)[k]'hlt).toNat = 48 := by show s[k].toNat = 48; rw [h48]; rfl
        clear hs h48
        go_wp2_with fail
        go_roundw
        case rel => exact ⟨k + 1, by omega, by go_num, Eqw.refl _, HN⟩
        case measure => simp [intOf]; omega
      · have HN : Hid (numb s = s.drop k) := by show _ = _; rw [HA.out, hs, if_neg h48]
        have h2 : ¬ (((⟨s.toArray⟩ : ByteArray)[k]'hlt).toNat : Int) = 48 := by
          show ¬ (s[k].toNat : Int) = 48
          intro e; apply h48; apply UInt8.toNat_inj.1; show s[k].toNat = 48; omega
        have h2b : ((((⟨s.toArray⟩ : ByteArray)[k]'hlt).toNat : Int) == 48) = false := by simpa using h2
        clear hs h48
        go_wp2_with fail
        go_ret
        exact ⟨ret_s HN.out.symm, rfl⟩
    · have HN : Hid (numb s = s.drop k) := by show _ = _; rw [HA.out, List.drop_of_length_le (by omega)]; rfl
      have hlt' : (s.length : Int) ≤ (k : Int) := by omega
      have hke : (k : Int) ≤ (s.length : Int) := by omega
      go_wp2_with fail
      go_ret
      exact ⟨ret_s HN.out.symm, rfl⟩
theorem bd {W a b : World} (h : Below W.heap.size W a) (k : Below a.drew.heap.size a.drew b) : Below W.heap.size W b := bt (h.trans ((Dn.refl a).drew.below _)) k
end Go.Proofs.YtahmihlpnlfefaaDoor
