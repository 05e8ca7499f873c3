/- What the calls do to a shelf of the call's own. -/
import Derived.Test.YtojgkjpmphfakaaGreatDoorCN
import Derived.Test.YtojgkjpmphfakaaGreatDoorCQ
set_option linter.unusedVariables false
set_option linter.unusedSimpArgs false
namespace Go.Proofs.YtojgkjpmphfakaaGreatDoor
open Go.RowKit
/-- what a call says that changes a shelf -/
def StepP (B b g : Nat) (p : List UInt8) (w0 w : World) (os : List Og) (op : Nat → Bool) (n : Nat) (v : Value) (e : Ending) (w' : World) : Prop :=
  e = .returned v ∧ Below B w w' ∧ CellsBut b w w' ∧ ∃ l', Sh B b g p w0 w' l' ∧ Clm l' p os op ∧ l'.length ≤ n
section
variable {B b g : Nat} {p : List UInt8} {w0 w : World} {l : List Th} {os : List Og} {op : Nat → Bool} {n : Nat}
theorem Sh.claimS (h : Sh B b g p w0 w l) (hC : Clm l p os op) (hl : p.length ≤ 100) (hn : l.length ≤ n) (hn2 : n ≤ 10000) (o : Og) (h1 : o.1 < 18446744073709551616) (h2 : o.2.1 < 18446744073709551616) (h3 : o.2.2.length ≤ 1000) (h4 : os.length + 1 ≤ 1000) {k : Int} (hk : ((os.length + 1 : Nat) : Int) = k) :
    Calls Tryz.prog 17 #[.agg #[.pointer (some ⟨b, 0, none⟩), .string ⟨p.toArray⟩], .agg #[.int .u64 (o.1 : Int), .int .u64 (o.2.1 : Int), .string ⟨o.2.2.toArray⟩]] w (StepP B b g p w0 w (os ++ [o]) op (n + 1) (.tuple #[.int .u64 k, .int .i64 0])) := by
  obtain ⟨V, hV⟩ := h.vi
  refine (claim_any p o.1 o.2.1 o.2.2 os.length hV hC.asc (by omega) hl (hC.names hl) hC.max (by omega) hC.free h1 h2 h3).mono fun e w' ⟨e1, e2, e3, e4⟩ => ?_
  refine ⟨by rw [e1, hk], e2, e3, _, h.put e2 e3 e4, hC.claim o h1 h2 h3 h4, ?_⟩
  rw [tput_len]
  unfold putN
  rw [hC.free]
  exact Nat.succ_le_succ hn
theorem Sh.openS (h : Sh B b g p w0 w l) (hC : Clm l p os op) (hl : p.length ≤ 100) (hn : l.length ≤ n) (hn2 : n ≤ 10000) {m : Nat} (hm : m < 18446744073709551616) (ho : op m = false) {op' : Nat → Bool} (ho' : ∀ i, op' i = (op i || i == m)) :
    Calls Tryz.prog 19 #[.agg #[.pointer (some ⟨b, 0, none⟩), .string ⟨p.toArray⟩], .int .u64 (m : Int)] w (StepP B b g p w0 w os op' (n + 1) (.int .i64 0)) := by
  obtain ⟨V, hV⟩ := h.vi
  have hfree : tget l (okey p m) = none := by rw [hC.opn hm, ho]; rfl
  refine (open_any p m hV hC.asc (by omega) hl hm).mono fun e w' ⟨e1, e2, e3, e4⟩ => ?_
  refine ⟨by rw [e1]; unfold putC; rw [hfree], e2, e3, _, h.put e2 e3 e4, hC.opened hm ho ho', ?_⟩
  rw [tput_len]
  unfold putN
  rw [hfree]
  exact Nat.succ_le_succ hn
theorem Sh.openedS (h : Sh B b g p w0 w l) (hC : Clm l p os op) (hl : p.length ≤ 100) {m : Nat} (hm : m < 18446744073709551616) {r : Bool} (hr : op m = r) :
    Calls Tryz.prog 18 #[.agg #[.pointer (some ⟨b, 0, none⟩), .string ⟨p.toArray⟩], .int .u64 (m : Int)] w fun e w' => e = .returned (.bool r) ∧ Below w.heap.size w w' := by
  obtain ⟨V, hV⟩ := h.vi
  have := opened_any p m hV hl hm
  rw [hC.opn hm, hr] at this
  cases r <;> exact this
theorem Sh.whereS (h : Sh B b g p w0 w l) (hC : Clm l p os op) (hl : p.length ≤ 100) {m : Nat} (hm : m < 18446744073709551616) {o : Og} (ho : orig os m = some o) :
    Calls Tryz.prog 20 #[.agg #[.pointer (some ⟨b, 0, none⟩), .string ⟨p.toArray⟩], .int .u64 (m : Int)] w fun e w' => e = .returned (.tuple #[.agg #[.int .u64 (o.1 : Int), .int .u64 (o.2.1 : Int), .string ⟨o.2.2.toArray⟩], .bool true]) ∧ Below w.heap.size w w' := by
  obtain ⟨V, hV⟩ := h.vi
  have hb := hC.bnd o (orig_le ho).2.2
  exact where_some p m hV hl hm (by rw [hC.inc.get m hm, ho]; rfl) hb.1 hb.2.1 hb.2.2
theorem Sh.whereN (h : Sh B b g p w0 w l) (hC : Clm l p os op) (hl : p.length ≤ 100) {m : Nat} (hm : m < 18446744073709551616) (ho : orig os m = none) :
    Calls Tryz.prog 20 #[.agg #[.pointer (some ⟨b, 0, none⟩), .string ⟨p.toArray⟩], .int .u64 (m : Int)] w fun e w' => e = .returned (.tuple #[.agg #[.int .u64 0, .int .u64 0, .string ⟨#[]⟩], .bool false]) ∧ Below w.heap.size w w' := by
  obtain ⟨V, hV⟩ := h.vi
  exact where_none p m hV hl hm (by rw [hC.inc.get m hm, ho]; rfl)
theorem Sh.pathS (h : Sh B b g p w0 w l) (hC : Clm l p os op) (hl : p.length ≤ 100) {m : Nat} (hm : m < 18446744073709551616) :
    Calls Tryz.prog 21 #[.agg #[.pointer (some ⟨b, 0, none⟩), .string ⟨p.toArray⟩], .int .u64 (m : Int)] w fun e w' => ∃ v, e = .returned v ∧ Un w.heap.size w' v (pth os m) ∧ Below w.heap.size w w' := by
  obtain ⟨V, hV⟩ := h.vi
  exact path_of p m hV hl hm hC.inc
end
/-- values lie in blocks of bytes -/
theorem VaultIs.typed {B b n : Nat} {V : Nat → Prop} {w : World} {f : List UInt8 → Option (List UInt8)} (h : VaultIs B V w b f n) : VaultIs B (fun k => ∃ cur fr, w.heap[k]? = some (.cells cur 5 fr)) w b f n := by
  obtain ⟨hB, h | ⟨M, g, hM, h, hm, hf⟩⟩ := h
  · exact ⟨hB, .inl h⟩
  · refine ⟨hB, .inr ⟨M, g, hM, h, hm, fun s => ?_⟩⟩
    rcases hf s with h | ⟨v, l, h1, h2, h3, h4, h5⟩
    · exact .inl h
    · exact .inr ⟨v, l, h1, h2, h3, h4, fun k e => (own_typed h3 k e).2⟩
/-- behind an append to a row of another type -/
theorem Sh.grown {B B' b g m sz : Nat} {e : TypeId} {p : List UInt8} {w0 w w' : World} {l : List Th} {u : Value} {xs : List Value} (h : Sh B b g p w0 w l) (ho : w.ownsRow B' e sz u m xs) (hg : w.grownBy w' u.ownBlock) (h1 : e ≠ 5) (h2 : e ≠ 65) (h3 : e ≠ 29) (hB : B ≤ B') : Sh B b g p w0 w' l := by
  obtain ⟨V, hV⟩ := h.vi
  refine ⟨⟨_, hV.typed.fr (X := fun k => some k = u.ownBlock) (fun k hk hx => hg.block k hk hx) fun k hk => ?_⟩, ?_, h.bl.trans (below_app (Below.refl _ _) ho hg hB h.sz), h.ne, Nat.le_trans h.sz hg.size⟩
  · obtain ⟨_, cur, fr, e1⟩ := own_typed ho k hk.symm
    refine ⟨?_, cur, e, fr, e1, h2⟩
    rintro ⟨cur', fr', e2⟩
    rw [e1] at e2
    cases e2
    exact h1 rfl
  · refine (hg.block g (Array.getElem?_eq_some_iff.1 h.bx).1 fun e1 => ?_).trans h.bx
    obtain ⟨_, cur, fr, e2⟩ := own_typed ho g e1.symm
    rw [h.bx] at e2
    cases e2
    exact h3 rfl
theorem pth_bnd {os : List Og} (ho : ∀ o ∈ os, o.1 < 18446744073709551616) : ∀ (n : Nat), n < 18446744073709551616 → ∀ x ∈ pth os n, x < 18446744073709551616 := by
  intro n
  induction n using Nat.strongRecOn with
  | _ n ih =>
    intro hn x hx
    cases h : orig os n with
    | none => rw [pth_none h] at hx; cases hx
    | some o =>
      rw [pth_some h] at hx
      rcases List.mem_cons.1 hx with rfl | hx
      · exact hn
      · split at hx
        · rename_i h1; exact ih o.1 h1 (by omega) x hx
        · cases hx
/-- numbers of the call's own that are the same -/
theorem sameP {B B' : Nat} {w w' : World} {v u : Value} {os : List Og} {n : Nat} (h : Un B w v (pth os n)) (hb : Below w.heap.size w w') (h' : Un B' w' u (pth os n)) (hf : os.length ≤ 1000) (hn : n < 18446744073709551616) (ho : ∀ o ∈ os, o.1 < 18446744073709551616) :
    Calls Tryz.prog 15 #[v, u] w' fun e w'' => e = .returned (.bool true) ∧ Dn w' w'' := by
  have hl : (pth os n).length * 8 ≤ lim := by have := pth_few os n; unfold lim; omega
  exact (sameN_any ((h.up hb).us (pth_bnd ho n hn) hl) (h'.us (pth_bnd ho n hn) hl)).mono fun e w' ⟨h1, h2⟩ => ⟨by rw [h1, decide_eq_true rfl], h2⟩
/-- the name cut -/
def cutO (o : Og) : Og := (o.1, o.2.1, o.2.2.take 1000)
def oss (l : List Og) (k : Nat) : List Og := (l.take k).map cutO
theorem oss_len {l : List Og} {k : Nat} (h : k ≤ l.length) : (oss l k).length = k := by unfold oss; rw [List.length_map, List.length_take]; omega
theorem oss_succ {l : List Og} {k : Nat} (h : k < l.length) : oss l (k + 1) = oss l k ++ [cutO l[k]] := by unfold oss; rw [List.take_succ_eq_append_getElem h, List.map_append]; rfl
/-- which ones are open after so many rounds -/
def opk (k n : Nat) : Bool := decide (1 ≤ n ∧ n ≤ k ∧ n % 2 = 0)
theorem opk_zero : opk 0 = fun _ => false := by funext n; simp [opk]; omega
theorem opk_odd {k : Nat} (h : (k + 1) % 2 = 1) : opk (k + 1) = opk k := by
  funext n
  unfold opk
  rw [decide_eq_decide]
  constructor
  · rintro ⟨h1, h2, h3⟩; exact ⟨h1, by omega, h3⟩
  · rintro ⟨h1, h2, h3⟩; exact ⟨h1, by omega, h3⟩
theorem opk_even {k : Nat} (h : (k + 1) % 2 = 0) (n : Nat) : opk (k + 1) n = (opk k n || n == k + 1) := by
  unfold opk
  rw [Bool.eq_iff_iff]
  simp only [Bool.or_eq_true, decide_eq_true_eq, beq_iff_eq]
  constructor
  · rintro ⟨h1, h2, h3⟩
    by_cases e : n = k + 1
    · exact .inr e
    · exact .inl ⟨h1, by omega, h3⟩
  · rintro (⟨h1, h2, h3⟩ | rfl)
    · exact ⟨h1, by omega, h3⟩
    · exact ⟨by omega, by omega, h⟩
theorem opk_new (k : Nat) : opk k (k + 1) = false := by unfold opk; simp; omega
theorem ocs_take (l : List Og) (n : Nat) : ocs (l.take n) = (ocs l).take (n * 3) := by
  by_cases h : n ≤ l.length
  · have e := congrArg ocs (List.take_append_drop n l)
    rw [ocs_append] at e
    exact ((congrArg (List.take (n * 3)) e.symm).trans (List.take_left' (by rw [ocs_len, List.length_take]; omega))).symm
  · rw [List.take_of_length_le (by omega), List.take_of_length_le (by rw [ocs_len]; omega)]
theorem OgR.cut {A : Nat → Prop} {w : World} {a : Option Addr} {c : Nat} {l : List Og} (h : OgR A w (.slice a l.length c) l) {n : Nat} (hn : n ≤ l.length) : OgR A w (.slice a (l.take n).length c) (l.take n) := by
  have hl : (l.take n).length = n := by rw [List.length_take]; omega
  refine ⟨?_, fun o ho => h.2.1 o (List.mem_of_mem_take ho), by rw [hl]; have := h.2.2; omega⟩
  rw [hl, ocs_take]
  exact h.1.cutToN hn
theorem own_og {B : Nat} {w : World} {v : Value} {os : List Og} (h : w.ownsRow B 52 3 v os.length (ocs os)) (hb : ∀ o ∈ os, o.1 < 18446744073709551616 ∧ o.2.1 < 18446744073709551616 ∧ o.2.2.length ≤ 1000) (hf : os.length ≤ 1000) : OgR (Lt w.heap.size) w v os :=
  ⟨Row.of_own h, fun o ho => ⟨(hb o ho).1, (hb o ho).2.1, by have := (hb o ho).2.2; unfold maxLen; omega⟩, by unfold lim; omega⟩
end Go.Proofs.YtojgkjpmphfakaaGreatDoor
