/- Walks of layer 2: raise. -/
import Derived.Test.YtahmihlpnlfefaaDoorL4
set_option linter.unusedVariables false
set_option linter.unusedSimpArgs false
namespace Go.Proofs.YtahmihlpnlfefaaDoor
open Go.RowKit
open PL
def inc : List UInt8 → List UInt8 × Bool
  | [] => ([], true)
  | c :: r => if (inc r).2 then (if c.toNat < 57 then (UInt8.ofNat (c.toNat + 1) :: (inc r).1, false) else (48 :: (inc r).1, true)) else (c :: (inc r).1, false)
def raiseL (d : List UInt8) : List UInt8 := if (inc d).2 then 49 :: (inc d).1 else (inc d).1
theorem inc_stop (p x : List UInt8) (h : (inc x).2 = false) : inc (p ++ x) = (p ++ (inc x).1, false) := by
  induction p with
  | nil => rw [List.nil_append, List.nil_append, ← h]
  | cons c p ih => simp [inc, ih]
theorem inc_len (d : List UInt8) : (inc d).1.length = d.length := by
  induction d with
  | nil => rfl
  | cons c r ih => simp only [inc]; split <;> (try split) <;> simp [ih]
set_option maxRecDepth 100000 in
set_option maxHeartbeats 1000000 in
/-- label.raise -/
theorem raise_any (d : List UInt8) (hd : d.length ≤ 100) (w : World) : Calls Tryd.prog 30 #[.string ⟨d.toArray⟩] w fun e w' => e = .returned (.string ⟨(raiseL d).toArray⟩) ∧ Below w.heap.size w w' := by
  obtain ⟨c, w1, hr, ho, hc, hb, hz⟩ := run_bytes (P := Tryd.prog) 9 31 Tryd.underlying9 Tryd.underlying31 Tryd.underlying5 d w
  have HO := Hid.mk' ho
  have HB := Hid.mk' hb
  clear ho hb
  have hd' : (d.length : Int) ≤ 100 := by omega
  go_enter Tryd.func30, Tryd.ntmps30
  go_wp2
  go_loopw [4] (fun i wr => ∃ m : Nat, m ≤ d.length ∧ i = .int .i64 ((m : Int) - 1) ∧ Below w.heap.size w wr ∧ Om 5 w.heap.size wr (d.take m ++ List.replicate (d.length - m) 48) ∧ Hid (inc (d.drop m) = (List.replicate (d.length - m) 48, true))) (fun i _ => (intOf i + 1).toNat)
  case atStart => exact ⟨d.length, by omega, by simp, HB.out, by simpa using HO.out, Hid.mk' (by simp [inc])⟩
  case round =>
    obtain ⟨m, hm, rfl, hbr, hor, HI⟩ := hrel
    have HO2 := Hid.mk' hor
    have HB2 := Hid.mk' hbr
    have hlt := hor.lt
    clear hor hbr
    cases m with
    | zero =>
      have hi : inc d = (List.replicate d.length 48, true) := by have := HI.out; simpa using this
      have hO : Om 5 w.heap.size wr (List.replicate d.length 48) := by have := HO2.out; simpa using this
      have HR : Hid (raiseL d = 49 :: List.replicate d.length 48) := by show _ = _; unfold raiseL; rw [hi]; rfl
      have hs := run_str (P := Tryd.prog) 31 9 Tryd.underlying31 Tryd.underlying5 Tryd.underlying9 (hO.bs (c := c) (by simpa using hc) (by simp [lim]; omega))
      rw [List.length_replicate] at hs
      clear hi hO
      generalize hx : List.replicate d.length (48 : UInt8) = x at *
      have HX : Hid (x.length = d.length) := by show _ = _; rw [← hx]; simp
      have hx2 : x.length ≤ 100 := by rw [HX.out]; exact hd
      clear hx
      go_wp2
      go_ret
      exact ⟨by rw [HR.out, show 49 :: x = [49] ++ x from rfl, ← ba_app]; rfl, HB2.out⟩
    | succ j =>
      have hj : j < d.length := by omega
      have hlen : (d.take (j + 1) ++ List.replicate (d.length - (j + 1)) 48).length = d.length := by simp; omega
      have hc1 : wr.cell? ⟨w.heap.size, j, none⟩ = some (.int .u8 (d[j].toNat : Int)) := by
        rw [HO2.out.cell j (by omega), List.getElem_append_left (by simp; omega), List.getElem_take]
      have hc2 := HO2.out.frozen j (by omega)
      have HD := Hid.mk' (List.drop_eq_getElem_cons hj)
      have hslot : ((j + 1 : Nat) : Int) - 1 = (j : Int) := by omega
      rw [hslot]
      clear hlen hslot
      by_cases h9 : (d[j].toNat : Int) < 57
      · have HR : Hid (raiseL d = d.take j ++ (UInt8.ofNat (d[j].toNat + 1) :: List.replicate (d.length - (j + 1)) 48)) := by
          show _ = _
          have h1 : inc (d.drop j) = (UInt8.ofNat (d[j].toNat + 1) :: List.replicate (d.length - (j + 1)) 48, false) := by
            rw [HD.out, inc, HI.out]; simp; omega
          have h2 := inc_stop (d.take j) (d.drop j) (by rw [h1])
          rw [List.take_append_drop, h1] at h2
          unfold raiseL; rw [h2]; rfl
        have hset := HO2.out.set j (UInt8.ofNat (d[j].toNat + 1)) ((d[j].toNat : Int) + 1) (by simp; omega)
        rw [List.set_append_left _ _ (by simp; omega), List.take_succ_eq_append_getElem hj, List.set_append_right _ _ (by simp; omega), List.length_take, Nat.min_eq_left (by omega), Nat.sub_self, List.append_assoc] at hset
        have hs := run_str (P := Tryd.prog) 31 9 Tryd.underlying31 Tryd.underlying5 Tryd.underlying9 (hset.bs (c := c) (by simp; omega) (by simp [lim]; omega))
        have hl : (d.take j ++ ([d[j]].set 0 (UInt8.ofNat (d[j].toNat + 1)) ++ List.replicate (d.length - (j + 1)) 48) : List UInt8).length = d.length := by simp; omega
        rw [hl] at hs
        clear hset
        go_wp2
        go_ret
        exact ⟨by rw [HR.out]; rfl, HB2.out.setCell (Nat.le_refl _) _⟩
      · have h9' : (57 : Int) ≤ (d[j].toNat : Int) := by omega
        have HR : Hid (inc (d.drop j) = (List.replicate (d.length - j) 48, true)) := by
          show _ = _
          rw [HD.out, inc, HI.out, show d.length - j = d.length - (j + 1) + 1 from by omega]
          simp [List.replicate_succ]; omega
        clear h9
        go_wp2
        go_roundw
        case rel =>
          refine ⟨j, by omega, by go_num, HB2.out.setCell (Nat.le_refl _) _, ?_, HR⟩
          have := HO2.out.set j 48 48 rfl
          rw [List.set_append_left _ _ (by simp; omega), List.take_succ_eq_append_getElem hj, List.set_append_right _ _ (by simp; omega), List.length_take, Nat.min_eq_left (by omega), Nat.sub_self, List.append_assoc] at this
          rw [show d.length - j = d.length - (j + 1) + 1 from by omega, List.replicate_succ]
          exact this
        case measure => simp [intOf]
end Go.Proofs.YtahmihlpnlfefaaDoor
