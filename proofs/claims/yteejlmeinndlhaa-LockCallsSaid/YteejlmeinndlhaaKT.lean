/- A table of one's own and what reads beside it. -/
import Derived.Test.YteejlmeinndlhaaNP
set_option linter.unusedVariables false
set_option linter.unusedSimpArgs false
namespace Go.Proofs.Yteejlmeinndlhaa
open Go.RowKit Go.Maps
structure Kt (W wz : World) (b : Nat) (M D : Nat → Prop) (T : Tb) : Prop where
  hM : ∀ k, M k → W.heap.size ≤ k
  hD : ∀ k, D k → W.heap.size ≤ k
  tb : TbIs M D wz b T
  wb : Wb (fun k => k = b) W wz
  hb : b < W.heap.size
/-- the blocks that the table never writes -/
def Fr (b : Nat) (M : Nat → Prop) (w : World) (k : Nat) : Prop := k ≠ b ∧ ¬ M k ∧ k < w.heap.size
def Stp (b : Nat) (M : Nat → Prop) (w : World) (M' : Nat → Prop) (w' : World) : Prop := Wb (fun k => ¬ Fr b M w k) w w' ∧ ∀ k, Fr b M w k → Fr b M' w' k
theorem Stp.trans {b : Nat} {M M' M'' : Nat → Prop} {w w' w'' : World} (h : Stp b M w M' w') (k : Stp b M' w' M'' w'') : Stp b M w M'' w'' :=
  ⟨h.1.trans (k.1.mono fun i hi h' => hi (h.2 i h')), fun i hi => k.2 i (h.2 i hi)⟩
theorem Stp.below {b : Nat} {M : Nat → Prop} {w w' : World} (hb : Below w.heap.size w w') : Stp b M w M w' := ⟨Wb.of_below _ hb, fun k hk => ⟨hk.1, hk.2.1, Nat.lt_of_lt_of_le hk.2.2 hb.size⟩⟩
theorem Nws.stp {b : Nat} {M M' : Nat → Prop} {w w' : World} {v : Value} {T : Tb} (h : Nws (Fr b M w) w v T) (s : Stp b M w M' w') : Nws (Fr b M' w') w' v T := (h.wb s.1 fun k hk hA => hk hA).monoS s.2
theorem Rgs.stp {b : Nat} {M M' : Nat → Prop} {w w' : World} {v : Value} {l : List Rg} (h : Rgs (Fr b M w) w v l) (s : Stp b M w M' w') : Rgs (Fr b M' w') w' v l := (h.wb s.1 fun k hk hA => hk hA).monoS s.2
theorem Txr.stp {b : Nat} {M M' : Nat → Prop} {w w' : World} {v : Value} {l : List Tx} (h : Txr (Fr b M w) w v l) (s : Stp b M w M' w') : Txr (Fr b M' w') w' v l := (h.wb s.1 fun k hk hA => hk hA).monoS s.2
theorem Stp.heap {b k : Nat} {M M' : Nat → Prop} {w w' : World} (s : Stp b M w M' w') (hk : Fr b M w k) : w'.heap[k]? = w.heap[k]? := s.1.block k hk.2.2 fun h => h hk
variable {W wz : World} {b : Nat} {M D : Nat → Prop} {T : Tb}
theorem Kt.bl (h : Kt W wz b M D T) : b < wz.heap.size := Nat.lt_of_lt_of_le h.hb h.wb.size
theorem Kt.up {w' : World} (h : Kt W wz b M D T) (hb : Below wz.heap.size wz w') : Kt W w' b M D T := ⟨h.hM, h.hD, h.tb.below hb, h.wb.trans (Wb.of_below _ hb), h.hb⟩
theorem Kt.srt (h : Kt W wz b M D T) : Tsrt T := by
  obtain ⟨m, _, ⟨rfl, rfl⟩ | ⟨k, rfl, _, ht⟩⟩ := h.tb.ex
  · exact Tsrt.nil
  · exact ht.1
/-- what is new is no block of the table -/
theorem Kt.fresh {w' : World} (h : Kt W wz b M D T) {k : Nat} (h1 : wz.heap.size ≤ k) (h2 : k < w'.heap.size) : Fr b M w' k :=
  ⟨by have := h.bl; omega, fun hm => by have := (h.tb.hM k hm).1; omega, h2⟩
/-- what lay there before is none either -/
theorem Kt.old (h : Kt W wz b M D T) {k : Nat} (h1 : k ≠ b) (h2 : k < W.heap.size) : Fr b M wz k :=
  ⟨h1, fun hm => by have := h.hM k hm; omega, Nat.lt_of_lt_of_le h2 h.wb.size⟩
theorem Kt.ask {A : Nat → Prop} {x : Tx} {v : Value} {l : List Rg} (h : Kt W wz b M D T) (hv : Rgs A wz v l) (hn : T.length < 1000000) (hm : (tgz T x).length ≤ 1000000) :
    Calls Try.prog 21 #[.pointer (some ⟨b, 0, none⟩), tv x, v] wz fun e w' => e = .returned (.int .i64 (askT T x l).1) ∧ ∃ M' D', Kt W w' b M' D' (askT T x l).2 ∧ Stp b M wz M' w' := by
  refine (ask_any h.tb hv hn hm).mono ?_
  rintro e w' ⟨rfl, hw, M', D', hM', hD', ht⟩
  have hs := h.wb.size
  refine ⟨rfl, M', D', ⟨fun k hk => ?_, fun k hk => ?_, ht, h.wb.trans2 hw fun i hi h' => ?_, h.hb⟩, hw.mono fun k hk hf => ?_, fun k hk => ⟨hk.1, fun hm => ?_, Nat.lt_of_lt_of_le hk.2.2 hw.size⟩⟩
  · rcases hM' k hk with h' | h'
    · exact h.hM k h'
    · omega
  · rcases hD' k hk with h' | h'
    · exact h.hD k h'
    · omega
  · rcases h' with h' | h'
    · exact h'
    · have := h.hM i h'; omega
  · rcases hk with hk | hk
    · exact hf.1 hk
    · exact hf.2.1 hk
  · rcases hM' k hm with h' | h'
    · exact hk.2.1 h'
    · have := hk.2.2; omega
theorem Kt.rel {A : Nat → Prop} {v : Value} {l : List Tx} (h : Kt W wz b M D T) (hv : Txr A wz v l) (hA : ∀ k, A k → ¬ M k) (hn : T.length ≤ 1000000) :
    Calls Try.prog 24 #[.pointer (some ⟨b, 0, none⟩), v] wz fun e w' => e = .returned (.int .i64 ((T.length : Int) - ((relT T l).length : Int))) ∧ Kt W w' b M D (relT T l) ∧ Stp b M wz M w' := by
  refine (release_any h.tb hv hA hn).mono ?_
  rintro e w' ⟨rfl, hw, ht⟩
  have hs := h.wb.size
  exact ⟨rfl, ⟨h.hM, h.hD, ht, h.wb.trans2 hw fun i hi h' => by have := h.hM i h'; omega, h.hb⟩, hw.mono fun k hk hf => hf.2.1 hk, fun k hk => ⟨hk.1, hk.2.1, Nat.lt_of_lt_of_le hk.2.2 hw.size⟩⟩
theorem Kt.riv {A : Nat → Prop} {x : Tx} {v : Value} {l : List Rg} (h : Kt W wz b M D T) (hv : Rgs A wz v l) (hn : T.length ≤ 1000000) :
    Calls Try.prog 18 #[.pointer (some ⟨b, 0, none⟩), tv x, v] wz fun e w' => ∃ v', e = .returned v' ∧ Ot wz.heap.size w' v' (rivT T x l) ∧ Below wz.heap.size wz w' := rivals_any h.tb hv hn
theorem Kt.held {x : Tx} (h : Kt W wz b M D T) (hm : (tgz T x).length ≤ 1000000) : Calls Try.prog 27 #[.pointer (some ⟨b, 0, none⟩), tv x] wz fun e w' => ∃ v, e = .returned v ∧ Rgs (fun _ => True) w' v (tgz T x) ∧ Below wz.heap.size wz w' := by
  refine (held_any h.tb hm).mono ?_
  rintro e w' ⟨v, L, rfl, hL, ho, hb⟩
  exact ⟨v, rfl, by rw [← hL]; exact ho.rgs, hb⟩
theorem Kt.all (h : Kt W wz b M D T) (hn : T.length ≤ 1000000) : Calls Try.prog 25 #[.pointer (some ⟨b, 0, none⟩)] wz fun e w' => ∃ v, e = .returned v ∧ Ot wz.heap.size w' v (T.map (·.1)) ∧ Below wz.heap.size wz w' := all_any h.tb hn
theorem Kt.rgs {A : Nat → Prop} {v : Value} {l : List Rg} (h : Kt W wz b M D T) (hv : Rgs A W v l) (hA : ∀ k, A k → k ≠ b ∧ k < W.heap.size) : Rgs (Fr b M wz) wz v l :=
  (hv.wb h.wb fun k hk hA' => (hA k hA').1 hk).monoS fun k hk => h.old (hA k hk).1 (hA k hk).2
theorem Kt.cell {k j : Nat} {v : Value} (h : Kt W wz b M D T) (hk : k ≠ b) (hc : W.cell? ⟨k, j, none⟩ = some v) : wz.cell? ⟨k, j, none⟩ = some v :=
  (World.cell?_of_block (w := W) (a := ⟨k, j, none⟩) (h.wb.block k (World.block_lt_of_cell? W ⟨k, j, none⟩ hc) hk)).trans hc
end Go.Proofs.Yteejlmeinndlhaa
