/- drive.Trim, Rename, Remove. -/
import Derived.Test.YtpgpncngamagdaaDB
import Derived.Test.YtpgpncngamagdaaDW
set_option linter.unusedVariables false
set_option linter.unusedSimpArgs false
namespace Go.Proofs.Ytpgpncngamagdaa
open Go.RowKit
attribute [local go_sem ↓] Go.wp_at_zero Go.wp_at_succ
set_option maxRecDepth 100000 in
set_option maxHeartbeats 2000000 in
/-- drive.Trim -/
theorem trim_any {M D : Nat → Prop} {w : World} {b : Nat} {d : Dm} (n : By) (k : Int) (h : DrIs M D w b d) (hn : n.length ≤ maxLen) (hl : d.seen.length + 1 < maxLen) (hq : (d.queue.length + 1) * 16 ≤ 140737488355328) (hz : (foz d.seen n).length ≤ lim) :
    Calls Try.prog 53 #[.pointer (some ⟨b, 0, none⟩), .string ⟨n.toArray⟩, .int .i64 k] w (RawPost M D w b d (.trim n k.toNat) (trE d.seen n k)) := by
  obtain ⟨ms, mv, q, hb, h1, h2, h3, h4⟩ := h.ex
  obtain ⟨⟨c0, c1, c2, c3, c4, c5, c6⟩, c7⟩ := box7 hb
  obtain ⟨v0, _, hlk, hv0, _⟩ := h2.look n hn
  obtain ⟨va, vc, rfl, hx9⟩ := hv0.at
  clear hx9 hv0
  have HTH := Hid.mk' (there_any n hb h2 hn)
  have HH := Hid.mk' h
  have HL := Hid.mk' hl
  have HQ := Hid.mk' hq
  have HN := Hid.mk' hn
  have hol : ((foz d.seen n).length : Int) ≤ 140737488351232 := by unfold lim at hz; omega
  have HE : Hid (trE d.seen n k = if k < 0 ∨ ((fget d.seen n).isSome = true ∧ ((foz d.seen n).length : Int) < k) then 1 else if (fget d.seen n).isSome = true then 0 else 6) := rfl
  have HT : Hid (thE d n = if (fget d.seen n).isSome = true then 0 else 6) := rfl
  have HNOT := Hid.mk' (fun (w1 : World) (v : Value) (e : Int) (he : e ≠ 0) (hh : DrIs M D w1 b d) => raw_not (.trim n k.toNat) v e hh (fun hx => he hx.2))
  have HYES : Hid (0 ≤ k → k ≤ ((foz d.seen n).length : Int) → Calls Try.prog 47 #[.pointer (some ⟨b, 0, none⟩), .iface 119 (.agg #[.string ⟨n.toArray⟩, .int .i64 k]), .int .i64 0] w (RawPost M D w b d (.trim n k.toNat) 0)) := fun k0 k1 =>
    raw_any (.trim n k.toNat) _ 0 HH.out ⟨by rw [Int.toNat_of_nonneg k0], HN.out⟩ (fun _ _ => by show k.toNat ≤ _; omega) HL.out HQ.out
  generalize trE d.seen n k = e at *
  generalize (fget d.seen n).isSome = th at *
  generalize thE d n = t at *
  generalize (foz d.seen n).length = len at *
  clear h h1 h2 h3 h4 hb hn hl hq hz c0 c2 c3 c4 c5 c6
  by_cases k0 : k < 0
  · have he : e = 1 := by rw [HE.out, if_pos (.inl k0)]
    subst he
    go_enter Try.func53, Try.ntmps53
    go_wp2_with fail
    refine HTH.out.mono ?_
    rintro E w1 ⟨rfl, rfl⟩
    go_wp2_with fail
    refine (HNOT.out w _ 1 (by decide) HH.out).mono ?_
    rintro E w2 ⟨rfl, hT⟩
    have HT2 := Hid.mk' hT
    clear hT
    go_wp2_with fail
    go_ret
    exact ⟨rfl, HT2.out⟩
  · have k0' : 0 ≤ k := by omega
    cases th
    · have he : e = 6 := by rw [HE.out]; simp [k0]
      have ht : t = 6 := by rw [HT.out]; rfl
      subst he ht
      clear k0
      go_enter Try.func53, Try.ntmps53
      go_wp2_with fail
      refine HTH.out.mono ?_
      rintro E w1 ⟨rfl, rfl⟩
      go_wp2_with fail
      refine (HNOT.out w _ 6 (by decide) HH.out).mono ?_
      rintro E w2 ⟨rfl, hT⟩
      have HT2 := Hid.mk' hT
      clear hT
      go_wp2_with fail
      go_ret
      exact ⟨rfl, HT2.out⟩
    · have ht : t = 0 := by rw [HT.out]; rfl
      subst ht
      by_cases k1 : (len : Int) < k
      · have he : e = 1 := by rw [HE.out]; simp [k1]
        subst he
        clear k0
        go_enter Try.func53, Try.ntmps53
        go_wp2_with fail
        refine HTH.out.mono ?_
        rintro E w1 ⟨rfl, rfl⟩
        go_wp2_with fail
        refine (HNOT.out w _ 1 (by decide) HH.out).mono ?_
        rintro E w2 ⟨rfl, hT⟩
        have HT2 := Hid.mk' hT
        clear hT
        go_wp2_with fail
        go_ret
        exact ⟨rfl, HT2.out⟩
      · have he : e = 0 := by rw [HE.out]; simp [k0, k1]
        subst he
        clear k0
        go_enter Try.func53, Try.ntmps53
        go_wp2_with fail
        refine HTH.out.mono ?_
        rintro E w1 ⟨rfl, rfl⟩
        go_wp2_with fail
        refine (HYES.out k0' (by omega)).mono ?_
        rintro E w2 ⟨rfl, hT⟩
        have HT2 := Hid.mk' hT
        clear hT
        go_wp2_with fail
        go_ret
        exact ⟨rfl, HT2.out⟩
set_option maxRecDepth 100000 in
set_option maxHeartbeats 2000000 in
/-- drive.Rename -/
theorem rename_any {M D : Nat → Prop} {w : World} {b : Nat} {d : Dm} (n m : By) (h : DrIs M D w b d) (hn : n.length ≤ maxLen) (hm : m.length ≤ maxLen) (hl : d.seen.length + 1 < maxLen) (hq : (d.queue.length + 1) * 16 ≤ 140737488355328) :
    Calls Try.prog 54 #[.pointer (some ⟨b, 0, none⟩), .string ⟨n.toArray⟩, .string ⟨m.toArray⟩] w (RawPost M D w b d (.ren n m) (thE d n)) := by
  obtain ⟨ms, mv, q, hb, h1, h2, h3, h4⟩ := h.ex
  have HTH := Hid.mk' (there_any n hb h2 hn)
  have HR := Hid.mk' (raw_any (.ren n m) (.iface 121 (.agg #[.string ⟨n.toArray⟩, .string ⟨m.toArray⟩])) (thE d n) h ⟨rfl, hn, hm⟩ (fun _ _ => trivial) hl hq)
  generalize thE d n = t at *
  clear h h1 h2 h3 h4 hb hn hm hl hq
  go_enter Try.func54, Try.ntmps54
  go_wp2_with fail
  refine HTH.out.mono ?_
  rintro E w1 ⟨rfl, rfl⟩
  go_wp2_with fail
  refine HR.out.mono ?_
  rintro E w2 ⟨rfl, hT⟩
  have HT2 := Hid.mk' hT
  clear hT
  go_wp2_with fail
  go_ret
  exact ⟨rfl, HT2.out⟩
set_option maxRecDepth 100000 in
set_option maxHeartbeats 2000000 in
/-- drive.Remove -/
theorem remove_any {M D : Nat → Prop} {w : World} {b : Nat} {d : Dm} (n : By) (h : DrIs M D w b d) (hn : n.length ≤ maxLen) (hl : d.seen.length + 1 < maxLen) (hq : (d.queue.length + 1) * 16 ≤ 140737488355328) :
    Calls Try.prog 55 #[.pointer (some ⟨b, 0, none⟩), .string ⟨n.toArray⟩] w (RawPost M D w b d (.rem n) (thE d n)) := by
  obtain ⟨ms, mv, q, hb, h1, h2, h3, h4⟩ := h.ex
  have HTH := Hid.mk' (there_any n hb h2 hn)
  have HR := Hid.mk' (raw_any (.rem n) (.iface 123 (.agg #[.string ⟨n.toArray⟩])) (thE d n) h ⟨rfl, hn⟩ (fun _ _ => trivial) hl hq)
  generalize thE d n = t at *
  clear h h1 h2 h3 h4 hb hn hl hq
  go_enter Try.func55, Try.ntmps55
  go_wp2_with fail
  refine HTH.out.mono ?_
  rintro E w1 ⟨rfl, rfl⟩
  go_wp2_with fail
  refine HR.out.mono ?_
  rintro E w2 ⟨rfl, hT⟩
  have HT2 := Hid.mk' hT
  clear hT
  go_wp2_with fail
  go_ret
  exact ⟨rfl, HT2.out⟩
end Go.Proofs.Ytpgpncngamagdaa
