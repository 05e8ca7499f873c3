/- slices.Delete at [][]byte, one element, of a row of the call's own. -/
import Derived.Test.YtfmbbpfklhkljaaRWb
import Derived.Lib.SliceRun
set_option linter.unusedVariables false
set_option linter.unusedSimpArgs false
namespace Go.Proofs.Ytfmbbpfklhkljaa
open Go.RowKit
theorem sl_lhm (b n c l h m : Nat) (h1 : l ≤ h) (h2 : h ≤ m) (h3 : m ≤ c) : ∃ r, ∀ w, (Instr.slice 28 (.slice (some ⟨b, 0, none⟩) n c) (some (.int .i64 (l : Int))) (some (.int .i64 (h : Int))) (some (.int .i64 (m : Int)))).run Try.prog w = .ok r w := by
  refine ⟨Go.sliced (some ⟨b, 0, none⟩) l h m 1, fun w => ?_⟩
  rw [run_slice_lhm w 28 _ n c (by kernel_rfl) .i64 .i64 .i64 (l : Int) (h : Int) (m : Int) (by omega) (by omega) (by omega) (by omega), Try.size32]
  simp only [Result.andThen, Int.toNat_natCast]
theorem sl_lh (w : World) (b n c l h : Nat) (h1 : l ≤ h) (h2 : h ≤ c) (h3 : l < c) : (Instr.slice 28 (.slice (some ⟨b, 0, none⟩) n c) (some (.int .i64 (l : Int))) (some (.int .i64 (h : Int))) none).run Try.prog w = .ok (.slice (some ⟨b, l, none⟩) (h - l) (c - l)) w := by
  rw [run_slice_lh w 28 _ n c (by kernel_rfl) .i64 .i64 (l : Int) (h : Int) (by omega) (by omega) (by omega), Try.size32]
  simp only [Result.andThen, Int.toNat_natCast, Go.sliced]
  rw [if_neg (by omega), Option.map_some, Nat.mul_one, addr_add, Nat.zero_add]
/-- s[n:] whatever the capacity -/
theorem sl_end (b n c l : Nat) (h1 : l ≤ n) (h2 : n ≤ c) : ∃ p, (∀ w, (Instr.slice 28 (.slice (some ⟨b, 0, none⟩) n c) (some (.int .i64 (l : Int))) none none).run Try.prog w = .ok (.slice (some p) (n - l) (c - l)) w) ∧ (l < c → p = ⟨b, l, none⟩) := by
  by_cases h : c = l
  · refine ⟨⟨b, 0, none⟩, fun w => ?_, fun h' => by omega⟩
    rw [run_slice_l w 28 _ n c (by kernel_rfl) .i64 (l : Int) (by omega) (by omega), Try.size32]
    simp only [Result.andThen, Int.toNat_natCast, Go.sliced]
    rw [if_pos h]
  · refine ⟨⟨b, l, none⟩, fun w => ?_, fun _ => rfl⟩
    have := sl_lo w b 0 n c l h1 (by omega)
    rwa [Nat.zero_add] at this
theorem zero32' (w : World) : (zeroValue 32).run Try.prog w = .ok (.slice none 0 0) w := by kernel_rfl
set_option maxHeartbeats 4000000 in
set_option maxRecDepth 100000 in
theorem delete_in {B b N c i : Nat} {cs : List Value} {w : World} {cur : Array Value} (hi : i ≤ N) (hnc : N + 1 ≤ c) (hcm : c ≤ maxLen) (hcl : cs.length = N + 1) (hbb : B ≤ b)
    (hb : w.heap[b]? = some (.cells cur 32 (0, 0))) (hcur : cur.size = c) (htk : cur.toList.take (N + 1) = cs) (h1c : ∀ v ∈ cs, v.oneCell' = true) :
    Calls Try.prog 83 #[.slice (some ⟨b, 0, none⟩) (N + 1) c, .int .i64 i, .int .i64 ((i : Int) + 1)] w fun e w' => e = .returned (.slice (some ⟨b, 0, none⟩) N c) ∧ w'.ownsRow B 32 1 (.slice (some ⟨b, 0, none⟩) N c) N (cs.take i ++ cs.drop (i + 1)) ∧ Wb (fun k => k = b) w w' := by
  have hcm' : c ≤ 9223372036854775807 := Nat.le_trans hcm (by decide)
  obtain ⟨i0, hi0, hz0, hzs, hzb⟩ := info_parts Try.info32
  obtain ⟨r, S1⟩ := sl_lhm b (N + 1) c i (i + 1) (N + 1) (by omega) (by omega) hnc
  obtain ⟨p, S2, hp⟩ := sl_end b (N + 1) c (i + 1) (by omega) hnc
  have S3 := fun w => sl_hi w b 0 (N + 1) c i (by omega) (by omega)
  have S4 := fun w => sl_lh w b N c N (N + 1) (by omega) hnc (by omega)
  have S1 : ∀ w : World, (Instr.slice 28 (.slice (some ⟨b, 0, none⟩) (N + 1) c) (some (.int .i64 (i : Int))) (some (.int .i64 ((i : Int) + 1))) (some (.int .i64 ((N : Int) + 1)))).run Try.prog w = .ok r w := S1
  have S2 : ∀ w : World, (Instr.slice 28 (.slice (some ⟨b, 0, none⟩) (N + 1) c) (some (.int .i64 ((i : Int) + 1))) none none).run Try.prog w = .ok (.slice (some p) (N - i) (c - (i + 1))) w := fun w => by rw [show N - i = N + 1 - (i + 1) by omega]; exact S2 w
  have S4 : ∀ w : World, (Instr.slice 28 (.slice (some ⟨b, 0, none⟩) N c) (some (.int .i64 (N : Int))) (some (.int .i64 ((N : Int) + 1))) none).run Try.prog w = .ok (.slice (some ⟨b, N, none⟩) 1 (c - N)) w := fun w => by rw [show 1 = N + 1 - N by omega]; exact S4 w
  have hnl : (cs.drop (i + 1)).length = N - i := by rw [List.length_drop, hcl]; omega
  have hcs : ∀ j v, cs[j]? = some v → w.drew.cell? ⟨b, j, none⟩ = some v := fun j v hj => by
    have hjn : j < N + 1 := by have := (List.getElem?_eq_some_iff.1 hj).1; omega
    rw [← htk, List.getElem?_take, if_pos hjn] at hj
    show w.cell? _ = _
    simp only [World.cell?, hb]
    simpa using hj
  have hrun : ∀ ty, (Builtin.append_ #[28, 28] ty #[.slice (some ⟨b, 0, none⟩) i c, .slice (some p) (N - i) (c - (i + 1))]).run Try.prog w.drew = .ok (.slice (some ⟨b, 0, none⟩) N c) (w.drew.setRow b (cur.toList.take i ++ cs.drop (i + 1) ++ cur.toList.drop (i + (cs.drop (i + 1)).length)).toArray) := fun ty => by
    have h := run_append_room (P := Try.prog) w.drew 28 ty 32 i0 Try.underlying28 hi0 b i c cur hb p (N - i) (c - (i + 1)) (cs.drop (i + 1)) (by rw [hnl, hzs]; omega) (fun j u hj => by
      have hjl := (List.getElem?_eq_some_iff.1 hj).1
      rw [hp (by omega), addr_add]
      exact hcs _ _ (by rwa [List.getElem?_drop] at hj)) (fun v hv => h1c v (List.mem_of_mem_drop hv)) (by omega) (by rw [hnl, hzs]; omega)
    rw [hzs, Nat.mul_one, show i + (N - i) = N by omega] at h
    exact h
  obtain ⟨cur1, hcur1⟩ : ∃ c1, c1 = (cur.toList.take i ++ cs.drop (i + 1) ++ cur.toList.drop (i + (cs.drop (i + 1)).length)).toArray := ⟨_, rfl⟩
  obtain ⟨W1, hW1⟩ : ∃ W1, W1 = w.drew.setRow b cur1 := ⟨_, rfl⟩
  rw [← hcur1, ← hW1] at hrun
  have hh1 : W1.heap[b]? = some (.cells cur1 32 (0, 0)) := by rw [hW1]; exact setRow_heap w.drew b cur _ 32 _ hb
  have X1 : Wb (fun k => k = b) w W1 := by rw [hW1]; exact ⟨rfl, rfl, rfl, by simp, fun k hk hx => setRow_other w.drew b k _ hx⟩
  have hs1 : cur1.size = c := by rw [hcur1]; simp only [List.size_toArray, List.length_append, List.length_take, List.length_drop, Array.length_toList, hcl, hcur]; omega
  have ht1 : cur1.toList.take N = cs.take i ++ cs.drop (i + 1) := by
    rw [hcur1]
    have e1 : cur.toList.take i = cs.take i := by rw [← htk, List.take_take, Nat.min_eq_left (by omega)]
    rw [e1, List.toList_toArray, List.take_append_of_le_length (by simp [hcl]; omega), List.take_of_length_le (by simp [hcl]; omega)]
  have hclr : ∀ ty, (Builtin.clear_ #[28] ty #[.slice (some ⟨b, N, none⟩) 1 (c - N)]).run Try.prog W1 = .ok (.tuple #[]) (W1.setCells b N [.slice none 0 0]) := fun ty =>
    Lib.run_clear_slice W1 28 32 ty _ Try.underlying28 zero32' rfl rfl b N 1 (c - N) (by omega) (fun t ht => by
      simp only [World.cell?, hh1]
      rw [if_neg (by simp), Array.getElem?_eq_getElem (by omega)]; rfl) (fun t ht => by simp only [World.frozen?, hh1]; simp)
  have X2 := setCells_wb (b := b) [.slice none 0 0] N W1
  have hh2 := setCells_heap (b := b) [.slice none 0 0] N hh1 (by simp; omega)
  have HFIN : Hid (∀ W', W' = W1.setCells b N [.slice none 0 0] → W'.ownsRow B 32 1 (.slice (some ⟨b, 0, none⟩) N c) N (cs.take i ++ cs.drop (i + 1)) ∧ Wb (fun k => k = b) w W') := fun W' hW' => by
    subst hW'
    refine ⟨⟨by simp [hcl]; omega, .inr ⟨b, c, _, rfl, hbb, hh2, by omega, hcm, by simp; omega, ?_⟩⟩, X1.trans X2⟩
    simp only [Nat.mul_one]
    rw [List.append_assoc, List.take_append_of_le_length (by simp; omega), List.take_take, Nat.min_self, ht1]
  have hii : ¬ ((i : Int) = (i : Int) + 1) := by omega
  clear hcur1 hW1 hh1 X1 hs1 ht1 X2 hh2 hcs hb hcur htk h1c hcl hnl hi0 hz0 hzs hzb
  go_enter Try.func83, Try.ntmps83
  go_wp2_with fail
  go_still_tail 6, (by kernel_rfl)
  go_wp2_with (at_builtin; refine wpl_appr rfl (.tmp 22) (.tmp 25) 28 28 rfl rfl rfl (hrun _) ?_)
  go_ret
  exact ⟨rfl, HFIN.out _ rfl⟩
/-- slices.Delete of one value -/
theorem delete_any {B : Nat} {w : World} {v : Value} {l : List (List UInt8)} (h : Obb 0 B w v l) (i : Nat) (hi : i < l.length) :
    Calls Try.prog 83 #[v, .int .i64 i, .int .i64 ((i : Int) + 1)] w fun e w' => ∃ v', e = .returned v' ∧ Obb 0 B w' v' (l.take i ++ l.drop (i + 1)) ∧ Wb (fun k => some k = v.ownBlock) w w' ∧ v'.ownBlock = v.ownBlock := by
  have hty := h.typed
  obtain ⟨vs, h1, h2⟩ := h
  have hvl : vs.length = l.length := h2.1
  have hone := h2.one
  obtain ⟨h0, h | ⟨g, cap, cur, rfl, hbg, hg, hnc, hcm, hcs, htake⟩⟩ := h1
  · have := h.2; omega
  · obtain ⟨N, hN⟩ : ∃ N, l.length = N + 1 := ⟨l.length - 1, by omega⟩
    rw [hN] at hnc htake hvl
    rw [hN]
    refine (delete_in (B := B) (cs := vs) (N := N) (i := i) (by omega) hnc hcm hvl hbg hg (by omega) (by simpa using htake) hone).mono ?_
    rintro e w' ⟨rfl, k1, k2⟩
    have k2' : Wb (fun k => some k = (Value.slice (some ⟨g, 0, none⟩) (N + 1) cap).ownBlock) w w' := k2.mono fun k hk => by subst hk; rfl
    refine ⟨_, rfl, ?_, k2', rfl⟩
    have hs : ∀ b, Td 0 w b → w'.heap[b]? = w.heap[b]? := by
      rintro b (hb' | ⟨cur, fr, hb'⟩)
      · exact absurd hb' (Nat.not_lt_zero _)
      · refine k2.block b (Array.getElem?_eq_some_iff.1 hb').1 fun e => ?_
        subst e
        exact absurd (typed_ne hg hb') (by decide)
    refine ⟨_, ?_, ((each_append (Each.take h2 i) (Each.drop h2 (i + 1))).keepS hs).monoS fun b hb' => ?_⟩
    · have : (l.take i ++ l.drop (i + 1)).length = N := by simp; omega
      rw [this]; exact k1
    · have := hs b hb'
      rcases hb' with hb' | ⟨cur, fr, hb'⟩
      · exact absurd hb' (Nat.not_lt_zero _)
      · exact .inr ⟨cur, fr, by rw [this]; exact hb'⟩
end Go.Proofs.Ytfmbbpfklhkljaa
