/- What Enter, Lookup and Barriers do to a shelf of the call's own. -/
import Derived.Test.YtojgkjpmphfakaaGreatDoorCN
import Derived.Test.YtojgkjpmphfakaaGreatDoorRS
set_option linter.unusedVariables false
set_option linter.unusedSimpArgs false
namespace Go.Proofs.YtojgkjpmphfakaaGreatDoor
open Go.RowKit
open PL
/-- values lie in blocks of bytes -/
theorem VaultIs.typed5 {B b n : Nat} {V : Nat → Prop} {w : World} {f : List UInt8 → Option (List UInt8)} (h : VaultIs B V w b f n) : VaultIs B (fun k => ∃ cur fr, w.heap[k]? = some (.cells cur 5 fr)) w b f n := by
  obtain ⟨hB, h | ⟨M, g, hM, h, hm, hf⟩⟩ := h
  · exact ⟨hB, .inl h⟩
  · refine ⟨hB, .inr ⟨M, g, hM, h, hm, fun s => ?_⟩⟩
    rcases hf s with h | ⟨v, l, h1, h2, h3, h4, h5⟩
    · exact .inl h
    · exact .inr ⟨v, l, h1, h2, h3, h4, fun k e => (own_typed h3 k e).2⟩
/-- behind an append to a row of another type -/
theorem Sh.grown5 {B B' b g m sz : Nat} {e : TypeId} {p : List UInt8} {w0 w w' : World} {l : List Th} {u : Value} {xs : List Value} (h : Sh B b g p w0 w l) (ho : w.ownsRow B' e sz u m xs) (hg : w.grownBy w' u.ownBlock) (h1 : e ≠ 5) (h2 : e ≠ 65) (h3 : e ≠ 29) (hB : B ≤ B') : Sh B b g p w0 w' l := by
  obtain ⟨V, hV⟩ := h.vi
  refine ⟨⟨_, hV.typed5.fr (X := fun k => some k = u.ownBlock) (fun k hk hx => hg.block k hk hx) fun k hk => ?_⟩, ?_, h.bl.trans (below_app (Below.refl _ _) ho hg hB h.sz), h.ne, Nat.le_trans h.sz hg.size⟩
  · obtain ⟨_, cur, fr, e1⟩ := own_typed ho k hk.symm
    refine ⟨?_, cur, e, fr, e1, h2⟩
    rintro ⟨cur', fr', e2⟩
    rw [e1] at e2
    cases e2
    exact h1 rfl
  · refine (hg.block g (Array.getElem?_eq_some_iff.1 h.bx).1 fun e1 => ?_).trans h.bx
    obtain ⟨_, cur, fr, e2⟩ := own_typed ho g e1.symm
    rw [h.bx] at e2
    cases e2
    exact h3 rfl
section
variable {B b g : Nat} {p : List UInt8} {w0 w : World} {l : List Th} {W : List Bi} {n : Nat}
def EnterP (B b g : Nat) (p : List UInt8) (w0 w : World) (W : List Bi) (n : Nat) (c : Int) (e : Ending) (w' : World) : Prop :=
  e = .returned (.int .i64 c) ∧ Below B w w' ∧ CellsBut b w w' ∧ ∃ l', Sh B b g p w0 w' l' ∧ Bar l' p W ∧ l'.length ≤ n
theorem Sh.enterB {A : Nat → Prop} {v : Value} (h : Sh B b g p w0 w l) (hC : Bar l p W) (hl : p.length ≤ 100) (hn : l.length ≤ n) (hn2 : n ≤ 10000) (hW : W.length < 1000) (y : Bi) (h1 : y.1 < 18446744073709551616) (h2 : y.2.1 < 18446744073709551616) (h3 : y.2.2.2.length ≤ 1000) (hu : Us A w v y.2.2.2) :
    Calls Tryz.prog 9 #[.agg #[.pointer (some ⟨b, 0, none⟩), .string ⟨p.toArray⟩], .int .u64 (y.1 : Int), .agg #[.int .u64 (y.2.1 : Int), .string ⟨y.2.2.1.toArray⟩, v]] w (EnterP B b g p w0 w (rEnter W y).1 (n + 1) (rEnter W y).2) := by
  obtain ⟨V, hV⟩ := h.vi
  obtain ⟨e1, e2, e3⟩ := hC.enter y h1 h2 h3 hu.2.1 hW
  cases hv : validB y.2.2.1 with
  | false =>
    have hr : rEnter W y = (W, 3) := by unfold rEnter; rw [if_neg (by simp [hv])]
    rw [hr]
    refine (enter_bad y.1 y.2 hu hv).mono fun e w' ⟨a1, a2⟩ => ⟨a1, a2.mono h.sz, CellsBut.of_below a2, l, h.up a2, hC, by omega⟩
  | true =>
    refine (enter_ok p y.1 y.2 hV hC.asc (by omega) hl (hC.names hl) h1 (hC.cat h1) hu h2 h3 hv).mono fun e w' ⟨a1, a2, a3, a4⟩ => ?_
    exact ⟨by rw [a1, e1], a2, a3, _, h.put a2 a3 a4, e2, Nat.le_trans e3 (by omega)⟩
theorem Sh.lookB (h : Sh B b g p w0 w l) (hC : Bar l p W) (hl : p.length ≤ 100) (hn : l.length ≤ 10000) (inc : Nat) (nm : List UInt8) (h1 : inc < 18446744073709551616) :
    Calls Tryz.prog 10 #[.agg #[.pointer (some ⟨b, 0, none⟩), .string ⟨p.toArray⟩], .int .u64 (inc : Int), .string ⟨nm.toArray⟩] w (LookP w (look nm (cats inc W))) := by
  obtain ⟨V, hV⟩ := h.vi
  exact look_any p inc nm hV hC.asc (by omega) hl (hC.names hl) h1 (hC.cat h1)
theorem Sh.barsB {A : Nat → Prop} {u : Value} {ps : List (List UInt8)} (h : Sh B b g p w0 w l) (hC : Bar l p W) (hl : p.length ≤ 100) (hn : l.length ≤ 10000) (inc : Nat) (h1 : inc < 18446744073709551616) (hp : Ss A w u ps) (hps : ∀ q ∈ ps, q.length ≤ 1000) :
    Calls Tryz.prog 13 #[.agg #[.pointer (some ⟨b, 0, none⟩), .string ⟨p.toArray⟩], .int .u64 (inc : Int), u] w fun e w' => ∃ v', e = .returned v' ∧ BrO w.heap.size w' v' (some' ps (cats inc W)) ∧ Below w.heap.size w w' := by
  obtain ⟨V, hV⟩ := h.vi
  exact barriers_any p inc hV hC.asc (by omega) hl (hC.names hl) h1 (hC.cat h1) hp hps
end
theorem Ss.butNe {b : Nat} {w w' : World} {v : Value} {l : List (List UInt8)} (h : Ss (fun k => k ≠ b) w v l) (hk : CellsBut b w w') : Ss (fun k => k ≠ b) w' v l := ⟨h.1.butNe hk, h.2⟩
/-- the place cut -/
def cutB (y : Bi) : Bi := (y.1, y.2.1, y.2.2.1, y.2.2.2.take 50)
/-- the reference's list after so many rounds -/
def wks (l : List Bi) (k : Nat) : List Bi := (l.take k).foldl (fun W y => (rEnter W (cutB y)).1) []
theorem wks_succ {l : List Bi} {k : Nat} (h : k < l.length) : wks l (k + 1) = (rEnter (wks l k) (cutB l[k])).1 := by
  unfold wks
  rw [List.take_succ_eq_append_getElem h, List.foldl_append]
  rfl
theorem rEnter_len (W : List Bi) (y : Bi) : (rEnter W y).1.length ≤ W.length + 1 := by
  unfold rEnter
  split
  · split
    · exact Nat.le_succ _
    · split
      · exact Nat.le_succ _
      · show (ins W y).length ≤ _
        unfold ins
        rw [List.length_append, List.length_cons, List.length_take, List.length_drop]; omega
  · exact Nat.le_succ _
theorem wks_len (l : List Bi) : ∀ k, k ≤ l.length → (wks l k).length ≤ k
  | 0, _ => by simp [wks]
  | k + 1, h => by
    rw [wks_succ (by omega)]
    have := rEnter_len (wks l k) (cutB (l[k]'(by omega)))
    have := wks_len l k (by omega)
    omega
/-- who has the name in the incarnation is found -/
theorem look_hit {W : List Bi} (hu : W.Pairwise fun a b => a.1 = b.1 → a.2.1 ≠ b.2.1 ∧ a.2.2.1 ≠ b.2.2.1) {y : Bi} (hy : y ∈ W) {inc : Nat} {nm : List UInt8} (h1 : y.1 = inc) (h2 : y.2.2.1 = nm) : look nm (cats inc W) = some y.2 := by
  have hm : y.2 ∈ cats inc W := mem_cats.2 (by rw [← h1]; exact hy)
  unfold look
  cases hf : (cats inc W).find? (fun x => x.2.1 == nm) with
  | none =>
    have := List.find?_eq_none.1 hf y.2 hm
    simp [h2] at this
  | some x =>
    have hx := List.mem_of_find?_eq_some hf
    have hx2 : x.2.1 = nm := by have := List.find?_some hf; simpa using this
    have := uniq_get hu (mem_cats.1 hx) hy h1.symm (.inr (hx2.trans h2.symm))
    rw [← this]
theorem look_miss {W : List Bi} {inc : Nat} {nm : List UInt8} (h : (W.any fun y => y.1 == inc && y.2.2.1 == nm) = false) : look nm (cats inc W) = none := by
  unfold look
  rw [List.find?_eq_none]
  intro x hx
  have hm := mem_cats.1 hx
  rw [List.any_eq_false] at h
  have := h _ hm
  simpa using this
end Go.Proofs.YtojgkjpmphfakaaGreatDoor
