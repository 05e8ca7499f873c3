/- Lists of things by rising names: plain. Rows of things. groyneref10: Get, List, Lose, Put; groynelaw10.same; vault.Lose. groyneref10: Lose, Put. -/
import Derived.Test.YtfmbbpfklhkljaaVL
import Derived.Test.YtfmbbpfklhkljaaOP
import Derived.Sort.Walk0
set_option linter.unusedVariables false
set_option linter.unusedSimpArgs false
namespace Go.Proofs.Ytfmbbpfklhkljaa
open Go.RowKit
abbrev Th := List UInt8 × List UInt8
def tget (l : List Th) (s : List UInt8) : Option (List UInt8) := (l.find? fun t => t.1 == s).map (·.2)
def Asc (l : List Th) : Prop := (l.map (·.1)).Pairwise fun a b => a < b
def tput (l : List Th) (s b : List UInt8) : List Th := if (tget l s).isSome then l else l.takeWhile (fun t => decide (t.1 < s)) ++ [(s, b)] ++ l.dropWhile (fun t => decide (t.1 < s))
def tlose (l : List Th) (ns : List (List UInt8)) : List Th := l.filter fun t => !ns.contains t.1
def tlist (l : List Th) (p : List UInt8) : List (List UInt8) := (l.map (·.1)).filter (pfx p)
theorem lt_irr (a : List UInt8) : ¬ a < a := List.lt_irrefl a
theorem lt_trans' {a b c : List UInt8} (h : a < b) (k : b < c) : a < c := List.lt_trans h k
theorem not_lt_le {a b : List UInt8} (h : ¬ a < b) : b ≤ a := List.not_lt.1 h
theorem Asc.cons {t : Th} {l : List Th} : Asc (t :: l) ↔ (∀ u ∈ l, t.1 < u.1) ∧ Asc l := by
  unfold Asc
  rw [List.map_cons, List.pairwise_cons]
  simp
theorem tget_cons (t : Th) (l : List Th) (s : List UInt8) : tget (t :: l) s = if t.1 = s then some t.2 else tget l s := by
  unfold tget
  rw [List.find?_cons]
  by_cases h : t.1 = s
  · simp [h]
  · rw [if_neg h]
    have : (t.1 == s) = false := by simpa using h
    rw [this]
theorem tget_none_of_lt {l : List Th} {s : List UInt8} (h : ∀ u ∈ l, s < u.1) : tget l s = none := by
  induction l with
  | nil => rfl
  | cons t l ih =>
    rw [tget_cons, if_neg, ih fun u hu => h u (List.mem_cons_of_mem _ hu)]
    intro e
    have := h t (List.mem_cons_self ..)
    rw [e] at this
    exact lt_irr _ this
theorem tget_mem {l : List Th} {s x : List UInt8} (h : tget l s = some x) : ∃ t ∈ l, t.1 = s ∧ t.2 = x := by
  induction l with
  | nil => cases h
  | cons t l ih =>
    rw [tget_cons] at h
    by_cases e : t.1 = s
    · rw [if_pos e] at h; exact ⟨t, List.mem_cons_self .., e, Option.some.inj h⟩
    · rw [if_neg e] at h
      obtain ⟨u, hu, r⟩ := ih h
      exact ⟨u, List.mem_cons_of_mem _ hu, r⟩
theorem tget_isSome (l : List Th) (s : List UInt8) : (tget l s).isSome = true ↔ s ∈ l.map (·.1) := by
  induction l with
  | nil => simp [tget]
  | cons t l ih =>
    rw [tget_cons, List.map_cons, List.mem_cons]
    by_cases e : t.1 = s
    · rw [if_pos e]; simp [e]
    · rw [if_neg e, ih]
      simp [Ne.symm e]
/-- one more name in its place -/
theorem tput_cons (t : Th) (l : List Th) (s b : List UInt8) (h : Asc (t :: l)) : tput (t :: l) s b = if t.1 < s then t :: tput l s b else if t.1 = s then t :: l else (s, b) :: t :: l := by
  unfold tput
  by_cases h1 : t.1 < s
  · have hne : ¬ t.1 = s := fun e => by rw [e] at h1; exact lt_irr _ h1
    rw [if_pos h1, tget_cons, if_neg hne]
    split
    · rfl
    · simp [h1]
  · rw [if_neg h1]
    by_cases h2 : t.1 = s
    · rw [if_pos h2, tget_cons, if_pos h2]; simp
    · rw [if_neg h2, tget_cons, if_neg h2]
      have hn : tget l s = none := tget_none_of_lt fun u hu => by
        have := (Asc.cons.1 h).1 u hu
        exact lt_trans' (lt_of_le_ne (not_lt_le h1) (Ne.symm h2)) this
      rw [hn]
      simp [h1]
theorem tput_get {l : List Th} (h : Asc l) (s b x : List UInt8) : tget (tput l s b) x = putF (tget l) s b x := by
  induction l with
  | nil =>
    simp only [tput, tget, putF]
    by_cases e : x = s
    · subst e; simp
    · have : (s == x) = false := by simpa using Ne.symm e
      simp [e, this]
  | cons t l ih =>
    have hl := (Asc.cons.1 h).2
    rw [tput_cons t l s b h]
    by_cases h1 : t.1 < s
    · have hne : ¬ t.1 = s := fun e => by rw [e] at h1; exact lt_irr _ h1
      rw [if_pos h1, tget_cons, ih hl]
      unfold putF
      rw [tget_cons, tget_cons, if_neg hne]
      by_cases e : x = s
      · subst e; rw [if_neg hne]; simp
      · simp only [if_neg e]
    · rw [if_neg h1]
      by_cases h2 : t.1 = s
      · rw [if_pos h2]
        unfold putF
        by_cases e : x = s
        · subst e; rw [tget_cons, if_pos h2]; simp
        · rw [if_neg e]
      · rw [if_neg h2, tget_cons]
        have hn : tget (t :: l) s = none := by
          rw [tget_cons, if_neg h2]
          exact tget_none_of_lt fun u hu => lt_trans' (lt_of_le_ne (not_lt_le h1) (Ne.symm h2)) ((Asc.cons.1 h).1 u hu)
        unfold putF
        rw [hn]
        by_cases e : s = x
        · subst e; simp
        · rw [if_neg e, if_neg (Ne.symm e)]
theorem tput_mem {l : List Th} {s b : List UInt8} {u : Th} (h : u ∈ tput l s b) : u ∈ l ∨ u = (s, b) := by
  unfold tput at h
  split at h
  · exact .inl h
  · rw [List.append_assoc, List.mem_append, List.mem_append, List.mem_singleton] at h
    rcases h with h | h | h
    · exact .inl (List.takeWhile_subset _ h)
    · exact .inr h
    · exact .inl (List.dropWhile_subset _ h)
theorem tput_asc {l : List Th} (h : Asc l) (s b : List UInt8) : Asc (tput l s b) := by
  induction l with
  | nil => simp [tput, tget, Asc]
  | cons t l ih =>
    have hl := (Asc.cons.1 h).2
    rw [tput_cons t l s b h]
    by_cases h1 : t.1 < s
    · rw [if_pos h1, Asc.cons]
      refine ⟨fun u hu => ?_, ih hl⟩
      rcases tput_mem hu with hu | rfl
      · exact (Asc.cons.1 h).1 u hu
      · exact h1
    · rw [if_neg h1]
      by_cases h2 : t.1 = s
      · rw [if_pos h2]; exact h
      · rw [if_neg h2, Asc.cons]
        refine ⟨fun u hu => ?_, h⟩
        have h3 := lt_of_le_ne (not_lt_le h1) (Ne.symm h2)
        rcases List.mem_cons.1 hu with rfl | hu
        · exact h3
        · exact lt_trans' h3 ((Asc.cons.1 h).1 u hu)
theorem tput_len {l : List Th} (s b : List UInt8) : (tput l s b).length = putN (tget l) s l.length := by
  unfold tput putN
  cases tget l s with
  | some o => simp
  | none =>
    simp only [Option.isSome_none, Bool.false_eq_true, if_false, List.length_append, List.length_singleton]
    have := congrArg List.length (List.takeWhile_append_dropWhile (p := fun t : Th => decide (t.1 < s)) (l := l))
    rw [List.length_append] at this
    omega
theorem tlose_asc {l : List Th} (h : Asc l) (ns : List (List UInt8)) : Asc (tlose l ns) := by
  unfold Asc tlose
  exact h.sublist (List.Sublist.map _ List.filter_sublist)
theorem tlose_get (l : List Th) (ns : List (List UInt8)) (x : List UInt8) : tget (tlose l ns) x = if ns.contains x then none else tget l x := by
  induction l with
  | nil => simp [tlose, tget]
  | cons t l ih =>
    unfold tlose
    rw [List.filter_cons]
    by_cases hc : ns.contains t.1 = true
    · rw [hc]
      simp only [Bool.not_true, Bool.false_eq_true, if_false]
      rw [show l.filter (fun t => !ns.contains t.1) = tlose l ns from rfl, ih, tget_cons]
      by_cases e : t.1 = x
      · subst e; rw [if_pos hc, if_pos hc]
      · rw [if_neg e]
    · have hc' : ns.contains t.1 = false := by simpa using hc
      rw [hc']
      simp only [Bool.not_false, if_true]
      rw [show l.filter (fun t => !ns.contains t.1) = tlose l ns from rfl, tget_cons, tget_cons, ih]
      by_cases e : t.1 = x
      · subst e; rw [if_pos rfl, if_pos rfl, if_neg hc]
      · rw [if_neg e, if_neg e]
/-- two rising lists of the same names are one -/
theorem rising_eq {l m : List (List UInt8)} (hl : l.Pairwise fun a b => a < b) (hm : m.Pairwise fun a b => a < b) (h : ∀ x, x ∈ l ↔ x ∈ m) : l = m := by
  have nd : ∀ {l : List (List UInt8)}, (l.Pairwise fun a b => a < b) → l.Nodup := fun hl => hl.imp fun {a b} hab e => by subst e; exact lt_irr _ hab
  refine List.Perm.eq_of_pairwise (le := fun a b => a < b) (fun a b _ _ h1 h2 => absurd (lt_trans' h1 h2) (lt_irr _)) hl hm ((List.perm_ext_iff_of_nodup (nd hl) (nd hm)).2 h)
theorem keys_list {f : List UInt8 → Option (List UInt8)} {n : Nat} {L : List (List UInt8)} {l : List Th} (h : Keys f n L) (hf : ∀ s, f s = tget l s) (hl : Asc l) : L = l.map (·.1) := by
  refine rising_eq h.1 hl fun x => ?_
  rw [h.2.1, hf, tget_isSome]
/-- how many there are -/
theorem vault_len {B b n : Nat} {V : Nat → Prop} {w : World} {f : List UInt8 → Option (List UInt8)} {l : List Th} (h : VaultIs B V w b f n) (hf : ∀ s, f s = tget l s) (hl : Asc l) : n = l.length := by
  obtain ⟨hB, ⟨_, rfl, hn⟩ | ⟨M, g, hM, h1, hm, hg⟩⟩ := h
  · cases l with
    | nil => rfl
    | cons t l =>
      have := hf t.1
      rw [hn, tget_cons, if_pos rfl] at this
      cases this
  · obtain ⟨D, h2, h3, hk⟩ := keys_of hm
    have h4 := hk _ (List.Perm.refl _)
    have h5 := h4.map (g := f) fun s => by
      rcases hg s with ⟨a, b⟩ | ⟨x, y, a, b, _⟩ <;> rw [a, b] <;> rfl
    have h6 := keys_list h5 hf hl
    have h7 := h5.2.2.1
    rw [h6] at h7
    simpa using h7.symm
/-- rows of things: each a name and a slice of bytes -/
abbrev Tq := Th × Value
def tc (q : Tq) : List Value := [.string ⟨q.1.1.toArray⟩, q.2]
def tcs (L : List Tq) : List Value := (L.map tc).flatten
theorem tcs_two (L : List Tq) : ∀ c ∈ L.map tc, c.length = 2 := by
  intro c hc; obtain ⟨q, _, rfl⟩ := List.mem_map.1 hc; rfl
theorem tcs_len (L : List Tq) : (tcs L).length = L.length * 2 := by
  unfold tcs; rw [flatten_len _ (tcs_two L), List.length_map]
theorem tcs_app (L M : List Tq) : tcs (L ++ M) = tcs L ++ tcs M := by simp [tcs]
theorem tcs_get (L : List Tq) (i : Nat) (h : i < L.length) : (tcs L)[i * 2]? = some (.string ⟨L[i].1.1.toArray⟩) ∧ (tcs L)[i * 2 + 1]? = some L[i].2 := by
  unfold tcs
  rw [flatten_get (by decide) _ (tcs_two L), flatten_get (by decide) _ (tcs_two L)]
  rw [show i * 2 / 2 = i by omega, show (i * 2 + 1) / 2 = i by omega, show i * 2 % 2 = 0 by omega, show (i * 2 + 1) % 2 = 1 by omega]
  simp [h, tc]
theorem tcs_take (L : List Tq) (n : Nat) : (tcs L).take (n * 2) = tcs (L.take n) := by
  induction L generalizing n with
  | nil => simp [tcs]
  | cons q L ih =>
    cases n with
    | zero => simp [tcs]
    | succ n =>
      have : tcs (q :: L) = tc q ++ tcs L := by simp [tcs]
      rw [this, List.take_succ_cons, show tcs (q :: L.take n) = tc q ++ tcs (L.take n) by simp [tcs], ← ih n]
      rw [show (n + 1) * 2 = n * 2 + 1 + 1 by omega]
      simp [tc]
theorem tcs_drop (L : List Tq) (n : Nat) : (tcs L).drop (n * 2) = tcs (L.drop n) := by
  induction L generalizing n with
  | nil => simp [tcs]
  | cons q L ih =>
    cases n with
    | zero => simp [tcs]
    | succ n =>
      have : tcs (q :: L) = tc q ++ tcs L := by simp [tcs]
      rw [this, List.drop_succ_cons, ← ih n]
      rw [show (n + 1) * 2 = n * 2 + 1 + 1 by omega]
      simp [tc]
/-- v reads as the things l -/
def Ts (A : Nat → Prop) (w : World) (v : Value) (l : List Th) : Prop := ∃ L : List Tq, L.map (·.1) = l ∧ Row 2 A w v L.length (tcs L) ∧ (∀ q ∈ L, Bs A w q.2 q.1.2) ∧ L.length ≤ 1000000
theorem Ts.up {A : Nat → Prop} {w w' : World} {v : Value} {l : List Th} (h : Ts A w v l) (hb : Below w.heap.size w w') : Ts A w' v l := by
  obtain ⟨L, h1, h2, h3, h4⟩ := h
  exact ⟨L, h1, h2.up hb, fun q hq => (h3 q hq).up hb, h4⟩
theorem Ts.keepS {A : Nat → Prop} {w w' : World} {v : Value} {l : List Th} (h : Ts A w v l) (hb : Same A w w') : Ts A w' v l := by
  obtain ⟨L, h1, h2, h3, h4⟩ := h
  exact ⟨L, h1, h2.keepS hb, fun q hq => (h3 q hq).keepS hb, h4⟩
theorem Ts.monoS {A A' : Nat → Prop} {w : World} {v : Value} {l : List Th} (h : Ts A w v l) (hA : ∀ b, A b → A' b) : Ts A' w v l := by
  obtain ⟨L, h1, h2, h3, h4⟩ := h
  exact ⟨L, h1, h2.monoS hA, fun q hq => (h3 q hq).monoS hA, h4⟩
theorem Ts.at {A : Nat → Prop} {w : World} {v : Value} {l : List Th} (h : Ts A w v l) : ∃ (a : Option Addr) (c : Nat), v = .slice a l.length c ∧ l.length ≤ c ∧ (a = none → c = 0) ∧ l.length ≤ 1000000 ∧
    ∀ j (hj : j < l.length), ∃ b o u, a = some ⟨b, o, none⟩ ∧ A b ∧ w.cell? ⟨b, o + j * 2, none⟩ = some (.string ⟨l[j].1.toArray⟩) ∧ w.cell? ⟨b, o + j * 2 + 1, none⟩ = some u ∧ Bs A w u l[j].2 := by
  obtain ⟨L, rfl, ⟨hl, a, c, hv, hc, ha, H⟩, h3, h4⟩ := h
  refine ⟨a, c, by rw [hv, List.length_map], by rw [List.length_map]; exact hc, ha, by rw [List.length_map]; exact h4, fun j hj => ?_⟩
  have hj' : j < L.length := by simpa using hj
  obtain ⟨g1, g2⟩ := tcs_get L j hj'
  obtain ⟨b, o, e1, e2, e3⟩ := H _ _ g1
  obtain ⟨b', o', e1', e2', e3'⟩ := H _ _ g2
  rw [e1] at e1'
  simp only [Option.some.injEq, Addr.mk.injEq, and_true] at e1'
  obtain ⟨rfl, rfl⟩ := e1'
  refine ⟨b, o, L[j].2, e1, e2, by rw [e3]; simp, e3', ?_⟩
  have := h3 L[j] (List.getElem_mem hj')
  simpa using this
end Go.Proofs.Ytfmbbpfklhkljaa
set_option linter.unusedVariables false
set_option linter.unusedSimpArgs false
namespace Go.Proofs.Ytfmbbpfklhkljaa
open Go.RowKit
theorem bs_nil {A : Nat → Prop} {w : World} : Bs A w (.slice none 0 0) [] := ⟨⟨rfl, none, 0, rfl, Nat.le_refl _, fun _ => rfl, fun j u hj => by simp [bv] at hj⟩, by simp⟩
theorem tget_drop (l : List Th) (s : List UInt8) (k : Nat) (h : k < l.length) : tget (l.drop k) s = if l[k].1 = s then some l[k].2 else tget (l.drop (k + 1)) s := by
  rw [List.drop_eq_getElem_cons h, tget_cons]
set_option maxRecDepth 100000 in
set_option maxHeartbeats 1000000 in
/-- groyneref10.Get -/
theorem rget_any {A : Nat → Prop} {w : World} {v : Value} {l : List Th} (s : List UInt8) (h : Ts A w v l) : Calls Try.prog 52 #[v, .string ⟨s.toArray⟩] w fun e w' => (∃ u, e = .returned (.tuple #[u, .int .i64 (getC (tget l) s)]) ∧ Bs A w u ((tget l s).getD [])) ∧ w = w' := by
  obtain ⟨a, c, rfl, hc, _, hm, H⟩ := h.at
  have H := Hid.mk' H
  have hm' : (l.length : Int) ≤ 1000000 := by omega
  clear h
  go_enter Try.func52, Try.ntmps52
  go_wp2_with fail
  go_loop [6] (fun i => ∃ k : Nat, k ≤ l.length ∧ i = .int .i64 k ∧ Hid (tget l s = tget (l.drop k) s)) (fun i => l.length - (intOf i).toNat)
  case atStart => exact ⟨0, by omega, rfl, rfl⟩
  case round =>
    obtain ⟨k, hk, rfl, HT⟩ := hrel
    by_cases hlt : k < l.length
    · have hlt' : (k : Int) < (l.length : Int) := by omega
      obtain ⟨b, o, u, rfl, _, h1, h2, h3⟩ := H.out k hlt
      have HS := Hid.mk' (tget_drop l s k hlt)
      obtain ⟨ua, uc, rfl, _⟩ := h3.at
      have H3 := Hid.mk' h3
      clear h3
      generalize l[k] = t at *
      cases hd : (t.1 == s) with
      | true =>
        have HV : Hid (tget l s = some t.2) := by show _ = _; rw [HT.out, HS.out, if_pos (by simpa using hd)]
        go_wp2_with fail
        go_ret2
        refine ⟨⟨.slice ua t.2.length uc, ?_, by rw [HV.out]; exact H3.out⟩, rfl⟩
        rw [show getC (tget l) s = 0 by unfold getC; rw [HV.out]]; rfl
      | false =>
        have HV : Hid (tget l s = tget (l.drop (k + 1)) s) := by show _ = _; rw [HT.out, HS.out, if_neg (by simpa using hd)]
        go_wp2_with fail
        go_round
        case rel => exact ⟨k + 1, by omega, by go_num, HV⟩
        case measure => simp [intOf]; omega
    · obtain rfl : k = l.length := by omega
      have HV : Hid (tget l s = none) := by show _ = _; rw [HT.out, List.drop_length]; rfl
      go_wp2_with fail
      go_ret2
      refine ⟨⟨.slice none 0 0, ?_, by rw [HV.out]; exact bs_nil⟩, rfl⟩
      rw [show getC (tget l) s = 6 by unfold getC; rw [HV.out]]; rfl
set_option maxRecDepth 100000 in
set_option maxHeartbeats 1000000 in
/-- groynelaw10.same -/
theorem same10_any {A A' : Nat → Prop} {w : World} {v u : Value} {l m : List (List UInt8)} (h : Ss A w v l) (h' : Ss A' w u m) : Calls Try.prog 54 #[v, u] w fun e w' => e = .returned (.bool (l == m)) ∧ Dn w w' := by
  have hl : l.length * 16 ≤ 140737488351232 := h.2
  have hm : m.length * 16 ≤ 140737488351232 := h'.2
  obtain ⟨a, c, rfl, hc, _, H⟩ := h.at
  obtain ⟨a', c', rfl, hc', _, H'⟩ := h'.at
  have H := Hid.mk' H
  have H' := Hid.mk' H'
  clear h h'
  by_cases hne : l.length = m.length
  · have hne' : ((l.length : Int) == (m.length : Int)) = true := by rw [beq_iff_eq]; omega
    have hne2 : ((l.length : Int) != (m.length : Int)) = false := by simp [hne]
    have HN := Hid.mk' hne
    clear hne
    go_enter Try.func54, Try.ntmps54
    go_wp2_with fail
    go_loopw [13] (fun i wr => ∃ k : Nat, k ≤ l.length ∧ i = .int .i64 k ∧ Hid (l.take k = m.take k) ∧ Dn w wr) (fun i _ => l.length - (intOf i).toNat)
    case atStart => exact ⟨0, by omega, rfl, Hid.mk' (by simp), Dn.refl _⟩
    case round =>
      obtain ⟨k, hk, rfl, HE, ⟨n, rfl⟩⟩ := hrel
      by_cases hlt : k < l.length
      · have hlt' : (k : Int) < (l.length : Int) := by omega
        have hkm : k < m.length := by have := HN.out; omega
        have hlt2 : (k : Int) < (m.length : Int) := by omega
        obtain ⟨b, o, rfl, _, hu⟩ := H.out k hlt
        obtain ⟨b', o', rfl, _, hu'⟩ := H'.out k hkm
        have hu0 : ∀ n, (w.drewN n).cell? ⟨b, o + k, none⟩ = some (.string ⟨l[k].toArray⟩) := fun n => hu
        have hu1 : ∀ n, (w.drewN n).cell? ⟨b', o' + k, none⟩ = some (.string ⟨m[k].toArray⟩) := fun n => hu'
        have HT1 := Hid.mk' (List.take_succ_eq_append_getElem hlt)
        have HT2 := Hid.mk' (List.take_succ_eq_append_getElem hkm)
        have HNE : Hid (l[k] ≠ m[k] → (l == m) = false) := fun hx => by
          rw [beq_eq_false_iff_ne]; rintro rfl; exact hx rfl
        clear hu hu'
        generalize l[k] = x at *
        generalize m[k] = y at *
        cases hd : (x == y) with
        | true =>
          have hd2 : (x != y) = false := by simpa using hd
          have HV : Hid (l.take (k + 1) = m.take (k + 1)) := by show _ = _; rw [HT1.out, HT2.out, HE.out, show x = y by simpa using hd]
          go_wp2_with fail
          go_quiet (fail)
          go_wp2_with fail
          go_roundw
          case rel => exact ⟨k + 1, by omega, by go_num, HV, by repeat (first | exact Dn.refl _ | apply Dn.more)⟩
          case measure => simp [intOf]; omega
        | false =>
          have hd2 : (x != y) = true := by simpa using hd
          have HV := Hid.mk' (HNE.out (by simpa using hd))
          go_wp2_with fail
          go_quiet (fail)
          go_wp2_with fail
          go_ret
          exact ⟨ret_b (by rw [HV.out]), by repeat (first | exact Dn.refl _ | apply Dn.more)⟩
      · obtain rfl : k = l.length := by omega
        have HV : Hid ((l == m) = true) := by
          show _ = _
          have h1 := HE.out
          rw [List.take_length, HN.out, List.take_length] at h1
          simpa using h1
        go_wp2_with fail
        go_ret
        exact ⟨ret_b HV.out.symm, by repeat (first | exact Dn.refl _ | apply Dn.more)⟩
  · have hne' : ((l.length : Int) == (m.length : Int)) = false := by rw [beq_eq_false_iff_ne]; omega
    have hne2 : ((l.length : Int) != (m.length : Int)) = true := by simp; omega
    have HV : Hid ((l == m) = false) := by show _ = _; rw [beq_eq_false_iff_ne]; rintro rfl; exact hne rfl
    clear hne
    go_enter Try.func54, Try.ntmps54
    go_wp2_with fail
    go_ret
    exact ⟨ret_b HV.out.symm, Dn.refl _⟩
theorem take_filter {α : Type} (p : α → Bool) (l : List α) (k : Nat) (h : k < l.length) : (l.take (k + 1)).filter p = (l.take k).filter p ++ if p l[k] then [l[k]] else [] := by
  rw [List.take_succ_eq_append_getElem h, List.filter_append]
  cases hp : p l[k] <;> simp [hp]
theorem one_ss {w : World} (x : List UInt8) : Ss (Lt (w.heap.size + 1)) (w.alloc (.cells #[.string ⟨x.toArray⟩] 9)) (.slice (some ⟨w.heap.size, 0, none⟩) 1 1) [x] := ⟨row_one, by unfold lim; simp⟩
theorem tlist_take (l : List Th) (p : List UInt8) (k : Nat) (h : k < l.length) : tlist (l.take (k + 1)) p = tlist (l.take k) p ++ if pfx p l[k].1 then [l[k].1] else [] := by
  unfold tlist
  rw [List.map_take, List.map_take, take_filter _ _ _ (by simpa using h)]
  simp
theorem tlist_len (l : List Th) (p : List UInt8) (k : Nat) : (tlist (l.take k) p).length ≤ l.length := by
  unfold tlist
  refine Nat.le_trans (List.length_filter_le _ _) ?_
  simp
  exact Nat.min_le_right _ _
set_option maxRecDepth 100000 in
set_option maxHeartbeats 1000000 in
/-- groyneref10.List -/
theorem rlist_any {A : Nat → Prop} {w : World} {v : Value} {l : List Th} (p : List UInt8) (h : Ts A w v l) (hp : p.length ≤ maxLen) (hs : ∀ t ∈ l, t.1.length ≤ maxLen) : Calls Try.prog 55 #[v, .string ⟨p.toArray⟩] w fun e w' => ∃ u, e = .returned u ∧ So 9 w.heap.size w' u (tlist l p) ∧ Below w.heap.size w w' := by
  obtain ⟨a, c, rfl, hc, _, hm, _⟩ := h.at
  have HH := Hid.mk' h
  have HS := Hid.mk' hs
  have hm' : (l.length : Int) ≤ 1000000 := by omega
  have e2 : (⟨p.toArray⟩ : ByteArray).size = p.length := by simp [ByteArray.size]
  clear h hs
  go_enter Try.func55, Try.ntmps55
  go_wp2_with fail
  go_loopw [5, 6] (fun u i wr => ∃ k : Nat, k ≤ l.length ∧ i = .int .i64 k ∧ Hid (So 9 w.heap.size wr u (tlist (l.take k) p)) ∧ Hid (Below w.heap.size w wr)) (fun _ i _ => l.length - (intOf i).toNat)
  case atStart => exact ⟨0, by omega, rfl, so_nil, Below.refl _ _⟩
  case round =>
    obtain ⟨k, hk, rfl, HO, HB⟩ := hrel
    by_cases hlt : k < l.length
    · have hlt' : (k : Int) < (l.length : Int) := by omega
      obtain ⟨_, _, ec, _, _, _, H⟩ := (HH.out.up HB.out).at
      cases ec
      obtain ⟨b, o, u, rfl, _, h1, h2, h3⟩ := H k hlt
      have HT := Hid.mk' (tlist_take l p k hlt)
      have HLN := Hid.mk' (tlist_len l p k)
      have hsl := HS.out l[k] (List.getElem_mem hlt)
      clear h2 h3 H
      generalize l[k] = t at *
      have e1 : (⟨t.1.toArray⟩ : ByteArray).size = t.1.length := by simp [ByteArray.size]
      have e3 := ba_take t.1 p.length
      by_cases h5 : p.length ≤ t.1.length
      · have h5' : (p.length : Int) ≤ (t.1.length : Int) := by omega
        have HX : Hid (pfx p t.1 = (t.1.take p.length == p)) := by show _ = _; unfold pfx; simp [h5]
        cases hd : (t.1.take p.length == p) with
        | true =>
          have HV : Hid (tlist (l.take (k + 1)) p = tlist (l.take k) p ++ [t.1]) := by show _ = _; rw [HT.out, HX.out, hd]; simp
          clear h5
          obtain ⟨ua, uc, eu⟩ := HO.out.slice
          go_wp2_with (at_builtin; refine app75 rfl (.tmp 34) (.tmp 40) rfl rfl (HO.out.alloc _) rfl (one_ss t.1) (by have := HLN.out; simp; unfold lim; omega) (by have := HB.out.size; simp; omega) ?_; intro v5 w5 ho5 hg5; have HO5 := Hid.mk' ho5; have HB5 := Hid.mk' (below_appS (HB.out.trans ((up_alloc wr _).mono HB.out.size)) (HO.out.alloc _) hg5 (Nat.le_refl _) (Nat.le_trans HB.out.size (up_alloc wr _).size)); clear ho5 hg5)
          go_roundw
          case rel => exact ⟨k + 1, by omega, by go_num, by rw [HV.out]; exact HO5, HB5⟩
          case measure => simp [intOf]; omega
        | false =>
          have HV : Hid (tlist (l.take (k + 1)) p = tlist (l.take k) p) := by show _ = _; rw [HT.out, HX.out, hd]; simp
          go_wp2_with fail
          go_roundw
          case rel => exact ⟨k + 1, by omega, by go_num, by rw [HV.out]; exact HO, HB⟩
          case measure => simp [intOf]; omega
      · have h5' : ¬ (p.length : Int) ≤ (t.1.length : Int) := by omega
        have HV : Hid (tlist (l.take (k + 1)) p = tlist (l.take k) p) := by
          show _ = _; rw [HT.out, show pfx p t.1 = false by unfold pfx; simp [h5]]; simp
        go_wp2_with fail
        go_roundw
        case rel => exact ⟨k + 1, by omega, by go_num, by rw [HV.out]; exact HO, HB⟩
        case measure => simp [intOf]; omega
    · obtain rfl : k = l.length := by omega
      have HV : Hid (tlist (l.take l.length) p = tlist l p) := by show _ = _; rw [List.take_length]
      go_wp2_with fail
      go_ret
      exact ⟨_, rfl, by rw [← HV.out]; exact HO.out, HB.out⟩
end Go.Proofs.Ytfmbbpfklhkljaa
set_option linter.unusedVariables false
set_option linter.unusedSimpArgs false
namespace Go.Proofs.Ytfmbbpfklhkljaa
open Go.RowKit
theorem Row.cutToN {sz : Nat} {A : Nat → Prop} {w : World} {a : Option Addr} {n m c : Nat} {vs : List Value} (h : Row sz A w (.slice a n c) n vs) (hm : m ≤ n) : Row sz A w (.slice a m c) m (vs.take (m * sz)) := by
  obtain ⟨hl, a', c', hv, hc, ha, H⟩ := h
  cases hv
  refine ⟨by rw [List.length_take, hl]; exact Nat.min_eq_left (Nat.mul_le_mul_right _ hm), a, c, rfl, by omega, ha, fun j u hj => H j u ?_⟩
  rw [List.getElem?_take] at hj
  split at hj
  · exact hj
  · cases hj
theorem Row.cutOffN {sz : Nat} {A : Nat → Prop} {w : World} {b o n m c : Nat} {vs : List Value} (h : Row sz A w (.slice (some ⟨b, o, none⟩) n c) n vs) (hm : m ≤ n) : Row sz A w (.slice (some ⟨b, o + m * sz, none⟩) (n - m) (c - m)) (n - m) (vs.drop (m * sz)) := by
  obtain ⟨hl, a', c', hv, hc, ha, H⟩ := h
  cases hv
  refine ⟨by rw [List.length_drop, hl, Nat.sub_mul], _, _, rfl, by omega, by simp, fun j u hj => ?_⟩
  rw [List.getElem?_drop] at hj
  obtain ⟨b', o', he, hA, hu⟩ := H _ _ hj
  cases he
  exact ⟨b, o + m * sz, rfl, hA, by rw [← hu, Nat.add_assoc]⟩
theorem Row.voidN {sz : Nat} {A : Nat → Prop} {w : World} {a : Option Addr} {c : Nat} (h : a = none → c = 0) : Row sz A w (.slice a 0 c) 0 [] := ⟨by simp, a, c, rfl, by omega, h, fun j u hj => by simp at hj⟩
theorem Row.slicedN {sz : Nat} (hsz : 0 < sz) {A : Nat → Prop} {w : World} {a : Option Addr} {n c l h : Nat} {vs : List Value} (hr : Row sz A w (.slice a n c) n vs) (hl : l ≤ h) (hh : h ≤ n) :
    ∃ a' c', Go.sliced a l h c sz = .slice a' (h - l) c' ∧ Row sz A w (.slice a' (h - l) c') (h - l) ((vs.take (h * sz)).drop (l * sz)) := by
  have hvl : vs.length = n * sz := hr.1
  have hv : ∀ h' : h - l = 0, ∀ a' c', (a' = none → c' = 0) → Row sz A w (.slice a' (h - l) c') (h - l) ((vs.take (h * sz)).drop (l * sz)) := by
    intro h' a' c' hn
    have e : h = l := by omega
    subst e
    rw [h', List.drop_of_length_le (by rw [List.length_take]; omega)]
    exact Row.voidN hn
  have hc : n ≤ c := by obtain ⟨_, _, _, hv, hc, _⟩ := hr; cases hv; exact hc
  have ha : a = none → c = 0 := by obtain ⟨_, _, _, hv, _, ha, _⟩ := hr; cases hv; exact ha
  unfold Go.sliced
  by_cases h1 : c = l
  · rw [if_pos h1]
    exact ⟨a, c - l, rfl, hv (by omega) _ _ (fun _ => by omega)⟩
  · rw [if_neg h1]
    cases a with
    | none => have := ha rfl; omega
    | some p =>
      refine ⟨_, _, rfl, ?_⟩
      by_cases h2 : h - l = 0
      · exact hv h2 _ _ (fun h => by cases h)
      · have h3 := hr.cutToN hh
        have hp : ∃ b o, p = ⟨b, o, none⟩ := by
          obtain ⟨_, _, _, hv', _, _, H⟩ := hr
          cases hv'
          have hn : 0 < n := by omega
          have : 0 < vs.length := by rw [hvl]; exact Nat.mul_pos hn hsz
          obtain ⟨b, o, he, _⟩ := H 0 (vs[0]'this) (by simp)
          exact ⟨b, o, Option.some.inj he⟩
        obtain ⟨b, o, rfl⟩ := hp
        have h4 := h3.cutOffN hl
        have e : (⟨b, o, none⟩ : Addr).add (l * sz) = ⟨b, o + l * sz, none⟩ := addr_add b o _
        rw [Option.map_some, e]
        exact h4
section
variable {P : Program} {t : TypeId} {A : Nat → Prop} {w : World} {a : Option Addr} {n c sz : Nat} {vs : List Value}
theorem row_loN (ht : P.underlying t = some (.slice (P.elem t))) (hz : ∀ w, (sizeOf (P.elem t)).run P w = .ok sz w) (hsz : 0 < sz) (hr : Row sz A w (.slice a n c) n vs) (l : Nat) (hl : l ≤ n) :
    ∃ a' c', (∀ w, (Instr.slice t (.slice a n c) (some (.int .i64 (l : Int))) none none).run P w = .ok (.slice a' (n - l) c') w) ∧ Row sz A w (.slice a' (n - l) c') (n - l) (vs.drop (l * sz)) := by
  obtain ⟨a', c', h1, h2⟩ := hr.slicedN hsz (l := l) (h := n) hl (Nat.le_refl _)
  refine ⟨a', c', fun w => ?_, by rwa [List.take_of_length_le (Nat.le_of_eq hr.1)] at h2⟩
  rw [run_slice_l w t a n c ht .i64 (l : Int) (by omega) (by omega), hz]
  simp only [Result.andThen, Int.toNat_natCast, h1]
theorem row_hiN (ht : P.underlying t = some (.slice (P.elem t))) (hz : ∀ w, (sizeOf (P.elem t)).run P w = .ok sz w) (hsz : 0 < sz) (hr : Row sz A w (.slice a n c) n vs) (h : Nat) (hh : h ≤ n) :
    ∃ a' c', (∀ w, (Instr.slice t (.slice a n c) none (some (.int .i64 (h : Int))) none).run P w = .ok (.slice a' h c') w) ∧ Row sz A w (.slice a' h c') h (vs.take (h * sz)) := by
  obtain ⟨a', c', h1, h2⟩ := hr.slicedN hsz (l := 0) (h := h) (Nat.zero_le _) hh
  have hc : n ≤ c := by obtain ⟨_, _, _, hv, hc, _⟩ := hr; cases hv; exact hc
  refine ⟨a', c', fun w => ?_, by simpa using h2⟩
  rw [run_slice_h w t a n c ht .i64 (h : Int) (by omega) (by omega), hz]
  simp only [Result.andThen, Int.toNat_natCast, h1, Nat.sub_zero]
end
/-- an own row, read: its block is the call's own -/
theorem Row.of_ownB {B size n : Nat} {e : TypeId} {w : World} {v : Value} {vs : List Value} (h : w.ownsRow B e size v n vs) : Row size (fun k => B ≤ k) w v n vs := by
  obtain ⟨hl, h | ⟨g, cap, cur, hv, hb, hg, hn, hm, hs, ht⟩⟩ := h
  · obtain ⟨rfl, rfl⟩ := h
    have : vs = [] := List.eq_nil_of_length_eq_zero (by simpa using hl)
    subst this
    exact ⟨hl, none, 0, rfl, Nat.le_refl _, fun _ => rfl, fun j u hj => by simp at hj⟩
  · refine ⟨hl, _, _, hv, hn, by simp, fun j u hj => ⟨g, 0, rfl, hb, ?_⟩⟩
    rw [← ht, List.getElem?_take] at hj
    split at hj
    · simp only [World.cell?, hg, Nat.zero_add]; simpa using hj
    · cases hj
theorem tcs_one {A : Nat → Prop} {w : World} {L : List Tq} (h : ∀ q ∈ L, Bs A w q.2 q.1.2) : ∀ u ∈ tcs L, u.oneCell' = true := by
  intro u hu
  unfold tcs at hu
  obtain ⟨c, hc, hu⟩ := List.mem_flatten.1 hu
  obtain ⟨q, hq, rfl⟩ := List.mem_map.1 hc
  simp only [tc, List.mem_cons, List.not_mem_nil, or_false] at hu
  rcases hu with rfl | rfl
  · rfl
  · obtain ⟨a, c, e, _⟩ := (h q hq).at
    rw [e]; rfl
theorem Try.info132 : (Try.prog.info? 132).map (fun i => (i.zero, i.size, i.bytes)) = some (some (.agg #[.string ⟨#[]⟩, .slice none 0 0]), 2, 40) := by kernel_rfl
theorem Try.size82 (w : World) : (sizeOf (Try.prog.elem 82)).run Try.prog w = .ok 2 w := by kernel_rfl
set_option maxRecDepth 100000 in
/-- append of things -/
theorem app82 {w : World} {ops : Array Oper} {rest : List Oper} {o : Oper} {a : Act} {Q : Exit → Act → World → Prop} (hgd : o.guard = none) (s x : Operand)
    (ho : o.op = .call { callee := .builtin .append, args := #[s, x], argTypes := #[82, 82] }) {B : Nat} {v : Value} {L : List Tq} (hs : a.eval s = v) (hown : w.ownsRow B 132 2 v L.length (tcs L))
    {A : Nat → Prop} {u : Value} {M : List Tq} (hx : a.eval x = u) (hsrc : Row 2 A w u M.length (tcs M)) (hM : ∀ q ∈ M, ∃ A w, Bs A w q.2 q.1.2) (hlen : L.length + M.length ≤ 3000000) (hB : B ≤ w.heap.size)
    (h : ∀ v' w', w'.ownsRow B 132 2 v' (L ++ M).length (tcs (L ++ M)) → w.grownBy w' v.ownBlock → wpList Try.prog ops Q rest (a.put o.dst v') w') :
    wpList Try.prog ops Q (o :: rest) a w := by
  have h1 : ∀ u ∈ tcs M, u.oneCell' = true := by
    intro u hu
    unfold tcs at hu
    obtain ⟨c, hc, hu⟩ := List.mem_flatten.1 hu
    obtain ⟨q, hq, rfl⟩ := List.mem_map.1 hc
    simp only [tc, List.mem_cons, List.not_mem_nil, or_false] at hu
    rcases hu with rfl | rfl
    · rfl
    · obtain ⟨_, _, hb⟩ := hM q hq
      obtain ⟨a, c, e, _⟩ := hb.at
      rw [e]; rfl
  refine wpl_app hgd s x 82 ho Try.underlying82 Try.info132 rfl (by decide) hs hown hx hsrc h1 (by unfold maxLen; omega) (by omega) hB fun v' w' h1 h2 h3 h4 => h v' w' ?_ h2
  rw [List.length_append, tcs_app]
  exact h1
/-- a row of things of the call's own, as it is read -/
theorem ts_own {A : Nat → Prop} {B : Nat} {w : World} {v : Value} {L : List Tq} (h : w.ownsRow B 132 2 v L.length (tcs L)) (hL : ∀ q ∈ L, Bs (fun k => A k ∨ B ≤ k) w q.2 q.1.2) (hn : L.length ≤ 1000000) : Ts (fun k => A k ∨ B ≤ k) w v (L.map (·.1)) :=
  ⟨L, rfl, (Row.of_ownB h).monoS fun _ hk => .inr hk, hL, hn⟩
theorem contains_take (ns : List (List UInt8)) (s : List UInt8) (k : Nat) (h : k < ns.length) : (ns.take (k + 1)).contains s = ((ns.take k).contains s || s == ns[k]) := by
  have := List.take_succ_eq_append_getElem h
  rw [Bool.eq_iff_iff, List.contains_iff_mem, Bool.or_eq_true, List.contains_iff_mem, this, List.mem_append, List.mem_singleton, beq_iff_eq]
theorem loseL_take (L : List Tq) (ns : List (List UInt8)) (k : Nat) (h : k < L.length) : (L.take (k + 1)).filter (fun q => !ns.contains q.1.1) = (L.take k).filter (fun q => !ns.contains q.1.1) ++ if ns.contains L[k].1.1 then [] else [L[k]] := by
  rw [take_filter _ _ _ h]
  cases ns.contains L[k].1.1 <;> rfl
theorem one_row2 {w : World} (q : Tq) : Row 2 (Lt (w.heap.size + 1)) (w.alloc (.cells #[.string ⟨q.1.1.toArray⟩, q.2] 132)) (.slice (some ⟨w.heap.size, 0, none⟩) 1 1) 1 (tcs [q]) := by
  refine ⟨rfl, _, _, rfl, Nat.le_refl _, by simp, fun j u hj => ⟨_, _, rfl, Nat.lt_succ_self _, ?_⟩⟩
  have hb : (w.alloc (.cells #[.string ⟨q.1.1.toArray⟩, q.2] 132)).heap[w.heap.size]? = some (.cells #[.string ⟨q.1.1.toArray⟩, q.2] 132) := heap_alloc_new w _
  match j, hj with
  | 0, hj => simp [tcs, tc] at hj; subst hj; simp only [World.cell?, hb]; rfl
  | 1, hj => simp [tcs, tc] at hj; subst hj; simp only [World.cell?, hb]; rfl
  | j + 2, hj => simp [tcs, tc] at hj
set_option maxRecDepth 100000 in
set_option maxHeartbeats 2000000 in
/-- groyneref10.Lose -/
theorem rlose_any {A A' : Nat → Prop} {w : World} {v u : Value} {l : List Th} {ns : List (List UInt8)} (h : Ts A w v l) (h' : Ss A' w u ns) : Calls Try.prog 50 #[v, u] w fun e w' => ∃ x, e = .returned x ∧ Ts (fun k => A k ∨ w.heap.size ≤ k) w' x (tlose l ns) ∧ Below w.heap.size w w' := by
  obtain ⟨a', c', rfl, hc', _, H'⟩ := h'.at
  have H' := Hid.mk' H'
  obtain ⟨L, rfl, hrow, hel, hn⟩ := h
  obtain ⟨_, a, c, rfl, hc, _, _⟩ := id hrow
  have HE := Hid.mk' hel
  have HR := Hid.mk' hrow
  have hm' : (L.length : Int) ≤ 1000000 := by omega
  have hns : ns.length * 16 ≤ 140737488351232 := h'.2
  clear hrow hel h' hc
  go_enter Try.func50, Try.ntmps50
  go_wp2_with fail
  go_loopw [5, 6] (fun x i wr => ∃ k : Nat, k ≤ L.length ∧ i = .int .i64 k ∧ Hid (wr.ownsRow w.heap.size 132 2 x ((L.take k).filter fun q => !ns.contains q.1.1).length (tcs ((L.take k).filter fun q => !ns.contains q.1.1))) ∧ Hid (Below w.heap.size w wr)) (fun _ i _ => L.length - (intOf i).toNat)
  case atStart => exact ⟨0, by omega, rfl, World.ownsRow_nil _ _ _ _, Below.refl _ _⟩
  case round =>
    obtain ⟨k, hk, rfl, HO, HB⟩ := hrel
    by_cases hlt : k < L.length
    · have hlt' : (k : Int) < (L.length : Int) := by omega
      have HFL : Hid (((L.take k).filter fun q => !ns.contains q.1.1).length ≤ L.length) := Nat.le_trans (List.length_filter_le _ _) (by rw [List.length_take]; exact Nat.min_le_right _ _)
      obtain ⟨g1, g2⟩ := tcs_get L k hlt
      obtain ⟨_, _, _, ev, _, _, HC⟩ := HR.out.up HB.out
      cases ev
      obtain ⟨b, o, rfl, _, e3⟩ := HC _ _ g1
      obtain ⟨b', o', eb, _, e3'⟩ := HC _ _ g2
      cases eb
      have HT := Hid.mk' (loseL_take L ns k hlt)
      have HQ := Hid.mk' (HE.out L[k] (List.getElem_mem hlt))
      clear g1 g2 HC
      generalize L[k] = q at *
      go_wp2_with fail
      rename World => wv
      go_loopw [7, 8] (fun g j wr => ∃ m : Nat, m ≤ ns.length ∧ j = .int .i64 m ∧ g = .bool ((ns.take m).contains q.1.1) ∧ Hid (Dn wv wr)) (fun _ j _ => ns.length - (intOf j).toNat)
      case atStart => exact ⟨0, by omega, rfl, by simp, Dn.refl _⟩
      case round =>
        obtain ⟨m, hmn, rfl, rfl, HD⟩ := hrel
        by_cases hlm : m < ns.length
        · have hlm' : (m : Int) < (ns.length : Int) := by omega
          have hns' : (ns.length : Int) ≤ 8796093021952 := by omega
          obtain ⟨nd, rfl⟩ := HD.out
          obtain ⟨b2, o2, rfl, _, hu⟩ := H'.out m hlm
          have HS := Hid.mk' (contains_take ns q.1.1 m hlm)
          have hu1 := cell_later (HB.out) hu
          have q1 : ∀ n, (wv.drewN n).cell? ⟨b, o + k * 2, none⟩ = some (.string ⟨q.1.1.toArray⟩) := fun n => e3
          have q2 : ∀ n, (wv.drewN n).cell? ⟨b2, o2 + m, none⟩ = some (.string ⟨ns[m].toArray⟩) := fun n => hu1
          clear hu hu1
          generalize ns[m] = y at *
          cases hg : (ns.take m).contains q.1.1 with
          | true =>
            have HV : Hid ((ns.take (m + 1)).contains q.1.1 = true) := by show _ = _; rw [HS.out, hg]; rfl
            clear hg e3 e3'
            go_wp2_with fail
            go_quiet (fail)
            go_wp2_with fail
            go_roundw
            case rel => exact ⟨m + 1, by omega, by go_num, by rw [HV.out], ⟨_, rfl⟩⟩
            case measure => simp [intOf]; omega
          | false =>
            cases hd : (y == q.1.1) with
            | true =>
              have HV : Hid ((ns.take (m + 1)).contains q.1.1 = true) := by show _ = _; rw [HS.out, hg]; simp at hd; simp [hd]
              clear hg e3 e3'
              go_wp2_with fail
              go_quiet (fail)
              go_wp2_with fail
              go_roundw
              case rel => exact ⟨m + 1, by omega, by go_num, by rw [HV.out], ⟨_, rfl⟩⟩
              case measure => simp [intOf]; omega
            | false =>
              have HV : Hid ((ns.take (m + 1)).contains q.1.1 = false) := by
                show _ = _; rw [HS.out, hg]
                have : (q.1.1 == y) = false := by rw [beq_eq_false_iff_ne] at hd ⊢; exact Ne.symm hd
                rw [this]; rfl
              clear hg e3 e3'
              go_wp2_with fail
              go_quiet (fail)
              go_wp2_with fail
              go_roundw
              case rel => exact ⟨m + 1, by omega, by go_num, by rw [HV.out], ⟨_, rfl⟩⟩
              case measure => simp [intOf]; omega
        · obtain rfl : m = ns.length := by omega
          rw [List.take_length]
          obtain ⟨nd, rfl⟩ := HD.out
          have q1 : (wv.drewN nd).cell? ⟨b, o + k * 2, none⟩ = some (.string ⟨q.1.1.toArray⟩) := e3
          have q2 : (wv.drewN nd).cell? ⟨b, o + k * 2 + 1, none⟩ = some q.2 := e3'
          cases hg : ns.contains q.1.1 with
          | true =>
            have HV : Hid ((L.take (k + 1)).filter (fun q => !ns.contains q.1.1) = (L.take k).filter (fun q => !ns.contains q.1.1)) := by show _ = _; rw [HT.out, hg]; simp
            clear e3 e3' hg
            go_wp2_with fail
            go_roundw
            case rel => exact ⟨k + 1, by omega, by go_num, by rw [HV.out]; exact HO, HB.out.trans ((Dn.refl wv).more nd |>.below _)⟩
            case measure => simp [intOf]; omega
          | false =>
            have HV : Hid ((L.take (k + 1)).filter (fun q => !ns.contains q.1.1) = (L.take k).filter (fun q => !ns.contains q.1.1) ++ [q]) := by show _ = _; rw [HT.out, hg]; simp
            clear e3 e3' hg
            have hb5 : Below w.heap.size w (wv.drewN nd) := HB.out.trans ((Dn.refl wv).more nd |>.below _)
            have hup := up_alloc (wv.drewN nd) (.cells #[.string ⟨q.1.1.toArray⟩, q.2] 132)
            have HBU := Hid.mk' (hb5.trans (hup.mono hb5.size))
            have HOU : Hid (((wv.drewN nd).alloc (.cells #[.string ⟨q.1.1.toArray⟩, q.2] 132)).ownsRow w.heap.size 132 2 u5 ((L.take k).filter fun q => !ns.contains q.1.1).length (tcs ((L.take k).filter fun q => !ns.contains q.1.1))) := World.ownsRow.alloc HO.out _
            obtain ⟨da, dc, ed, _⟩ := HQ.out.at
            rw [ed] at q2 HOU HBU
            clear hb5 hup
            go_wp2_with (at_builtin; go_must (refine app82 (L := (L.take k).filter fun q => !ns.contains q.1.1) (M := [q]) rfl (.tmp 36) (.tmp 41) rfl rfl HOU.out rfl (by rw [← ed]; exact one_row2 q) (fun x hx => by obtain rfl := List.mem_singleton.1 hx; exact ⟨_, _, HQ.out⟩) (by have := HFL.out; rw [List.length_singleton]; omega) (by have := HBU.out.size; exact this) ?_); intro v5 w5 ho5 hg5; have HO5 := Hid.mk' ho5; have HB5 := Hid.mk' (below_app HBU.out HOU.out hg5 (Nat.le_refl _) HBU.out.size); clear ho5 hg5)
            go_roundw
            case rel => exact ⟨k + 1, by omega, by go_num, by rw [HV.out]; exact HO5, HB5⟩
            case measure => simp [intOf]; omega
    · obtain rfl : k = L.length := by omega
      have HV : Hid (L.take L.length = L) := List.take_length
      go_wp2_with fail
      go_ret
      refine ⟨_, rfl, ?_, HB.out⟩
      have h1 := HO.out
      rw [HV.out] at h1
      have h2 := ts_own (A := A) h1 (fun q hq => ((HE.out q (List.mem_filter.1 hq).1).up HB.out).monoS fun _ hk => .inl hk) (Nat.le_trans (List.length_filter_le _ _) hn)
      have h3 : tlose (L.map (·.1)) ns = (L.filter fun q => !ns.contains q.1.1).map (·.1) := by unfold tlose; rw [List.filter_map]; rfl
      rw [h3]; exact h2
/-- where a name stands or would stand -/
def fnd : List Th → List UInt8 → Nat
  | [], _ => 0
  | t :: l, s => if t.1 < s then fnd l s + 1 else 0
theorem fnd_le : ∀ (l : List Th) (s : List UInt8), fnd l s ≤ l.length
  | [], _ => Nat.le_refl _
  | t :: l, s => by have := fnd_le l s; simp only [fnd]; split <;> simp <;> omega
theorem fnd_take : ∀ (l : List Th) (s : List UInt8), l.takeWhile (fun t => decide (t.1 < s)) = l.take (fnd l s)
  | [], _ => rfl
  | t :: l, s => by
    simp only [fnd]
    by_cases h : t.1 < s
    · simp [h, fnd_take l s]
    · simp [h]
theorem fnd_drop : ∀ (l : List Th) (s : List UInt8), l.dropWhile (fun t => decide (t.1 < s)) = l.drop (fnd l s)
  | [], _ => rfl
  | t :: l, s => by
    simp only [fnd]
    by_cases h : t.1 < s
    · simp [h, fnd_drop l s]
    · simp [h]
theorem fnd_lt : ∀ {l : List Th} {s : List UInt8} {k : Nat}, k < fnd l s → ∃ h' : k < l.length, l[k].1 < s
  | [], s, k, h => by simp [fnd] at h
  | t :: l, s, k, h => by
    simp only [fnd] at h
    by_cases h1 : t.1 < s
    · rw [if_pos h1] at h
      cases k with
      | zero => exact ⟨by simp, h1⟩
      | succ k =>
        obtain ⟨h2, h3⟩ := fnd_lt (l := l) (s := s) (k := k) (by omega)
        exact ⟨by simp; exact h2, by simpa using h3⟩
    · rw [if_neg h1] at h; omega
theorem fnd_at : ∀ {l : List Th} {s : List UInt8} (h : fnd l s < l.length), ¬ l[fnd l s].1 < s
  | [], s, h => by simp at h
  | t :: l, s, h => by
    by_cases h1 : t.1 < s
    · have e : fnd (t :: l) s = fnd l s + 1 := by simp [fnd, h1]
      have h2 : fnd l s < l.length := by rw [e] at h; simpa using h
      simp only [e, List.getElem_cons_succ]
      exact fnd_at h2
    · have e : fnd (t :: l) s = 0 := by simp [fnd, h1]
      simp only [e, List.getElem_cons_zero]
      exact h1
theorem fnd_get {l : List Th} {s : List UInt8} (ha : Asc l) (h : fnd l s < l.length) (he : l[fnd l s].1 = s) : tget l s = some l[fnd l s].2 := by
  have hn : ∀ k, k ≤ fnd l s → tget l s = tget (l.drop k) s := by
    intro k hk
    induction k with
    | zero => rfl
    | succ k ih =>
      obtain ⟨h1, h2⟩ := fnd_lt (l := l) (s := s) (k := k) (by omega)
      rw [ih (by omega), tget_drop l s k h1, if_neg]
      intro e; rw [e] at h2; exact lt_irr _ h2
  rw [hn _ (Nat.le_refl _), tget_drop l s _ h, if_pos he]
theorem fnd_none {l : List Th} {s : List UInt8} (ha : Asc l) (h : ∀ h : fnd l s < l.length, l[fnd l s].1 ≠ s) : tget l s = none := by
  have hn : ∀ k, k ≤ fnd l s → tget l s = tget (l.drop k) s := by
    intro k hk
    induction k with
    | zero => rfl
    | succ k ih =>
      obtain ⟨h1, h2⟩ := fnd_lt (l := l) (s := s) (k := k) (by omega)
      rw [ih (by omega), tget_drop l s k h1, if_neg]
      intro e; rw [e] at h2; exact lt_irr _ h2
  rw [hn _ (Nat.le_refl _)]
  by_cases h1 : fnd l s < l.length
  · have h2 : s < l[fnd l s].1 := lt_of_le_ne (not_lt_le (fnd_at h1)) (Ne.symm (h h1))
    refine tget_none_of_lt fun u hu => ?_
    rw [List.drop_eq_getElem_cons h1] at hu
    rcases List.mem_cons.1 hu with rfl | hu
    · exact h2
    · have ha' : Asc (l.drop (fnd l s)) := by unfold Asc; rw [List.map_drop]; exact ha.sublist (List.drop_sublist _ _)
      rw [List.drop_eq_getElem_cons h1] at ha'
      exact lt_trans' h2 ((Asc.cons.1 ha').1 u hu)
  · rw [List.drop_of_length_le (by omega)]; rfl
theorem own_sliceN {B n sz : Nat} {e : TypeId} {w : World} {v : Value} {xs : List Value} (h : w.ownsRow B e sz v n xs) : ∃ a c, v = .slice a n c := by
  rcases h.2 with ⟨rfl, rfl⟩ | ⟨g, cap, cur, rfl, _⟩
  · exact ⟨_, _, rfl⟩
  · exact ⟨_, _, rfl⟩
theorem own_grown_ne {B B' n m sz : Nat} {e e' : TypeId} {w w' : World} {v u : Value} {xs ys : List Value} (h : w.ownsRow B e sz v n xs) {sz' : Nat} (h' : w.ownsRow B' e' sz' u m ys) (hg : w.grownBy w' u.ownBlock) (hne : e ≠ e') : w'.ownsRow B e sz v n xs :=
  own_wb h (Wb.of_grown hg) fun k hk e1 => by
    obtain ⟨_, _, _, h1⟩ := own_typed h k e1.symm
    obtain ⟨_, _, _, h2⟩ := own_typed h' k hk.symm
    rw [h1] at h2
    simp only [Option.some.injEq, Obj.cells.injEq] at h2
    exact hne h2.2.1
theorem own_empty2 {B : Nat} {w : World} {e : TypeId} (hB : B ≤ w.heap.size) : (w.alloc (.cells #[] e)).ownsRow B e 2 (.slice (some ⟨w.heap.size, 0, none⟩) 0 0) ([] : List Tq).length (tcs []) :=
  ⟨rfl, .inr ⟨w.heap.size, 0, #[], rfl, hB, heap_alloc_new w _, Nat.le_refl _, by decide, rfl, rfl⟩⟩
set_option maxRecDepth 100000 in
set_option maxHeartbeats 2000000 in
/-- groyneref10.Put -/
theorem rput_any {A A' : Nat → Prop} {w : World} {v u : Value} {l : List Th} {b : List UInt8} (s : List UInt8) (h : Ts A w v l) (ha : Asc l) (hb : Bs A' w u b) (hl : l.length ≤ 100000) : Calls Try.prog 49 #[v, .string ⟨s.toArray⟩, u] w fun e w' => ∃ x, e = .returned (.tuple #[x, .int .i64 (putC (tget l) s b)]) ∧ Ts (fun k => A k ∨ w.heap.size ≤ k) w' x (tput l s b) ∧ Below w.heap.size w w' := by
  obtain ⟨ba, bc, rfl, _⟩ := hb.at
  have HBb := Hid.mk' hb
  have HAsc := Hid.mk' ha
  have HT := Hid.mk' h
  obtain ⟨L, rfl, hrow, hel, hn⟩ := h
  obtain ⟨_, a, c, rfl, hc, _, _⟩ := id hrow
  rw [List.length_map] at hl
  have HE := Hid.mk' hel
  have HR := Hid.mk' hrow
  have hm' : (L.length : Int) ≤ 100000 := by omega
  have HF := Hid.mk' (fnd_le (L.map (·.1)) s)
  rw [List.length_map] at HF
  clear hrow hel ha hb hn
  go_enter Try.func49, Try.ntmps49
  go_wp2_with fail
  go_loop [8] (fun i => ∃ k : Nat, k ≤ fnd (L.map (·.1)) s ∧ i = .int .i64 k) (fun i => L.length - (intOf i).toNat)
  case atStart => exact ⟨0, by omega, rfl⟩
  case round =>
    obtain ⟨k, hk, rfl⟩ := hrel
    have hkl : k ≤ L.length := Nat.le_trans hk HF.out
    by_cases hlt : k < fnd (L.map (·.1)) s
    · have hlt2 : k < L.length := Nat.lt_of_lt_of_le hlt HF.out
      have hlt' : (k : Int) < (L.length : Int) := by omega
      obtain ⟨g1, g2⟩ := tcs_get L k hlt2
      obtain ⟨_, _, _, ev, _, _, HC⟩ := id HR.out
      cases ev
      obtain ⟨b, o, rfl, _, e3⟩ := HC _ _ g1
      obtain ⟨_, hlt3⟩ := fnd_lt hlt
      simp only [List.getElem_map] at hlt3
      clear g1 g2 HC
      generalize L[k] = q at *
      have hd : Op.bytesLess q.1.1 s = true := by rw [bytesLess_eq]; simpa using hlt3
      go_wp2_with fail
      go_round
      case rel => exact ⟨k + 1, by omega, by go_num⟩
      case measure => simp [intOf]; omega
    · obtain rfl : k = fnd (L.map (·.1)) s := by omega
      have HAT : Hid (∀ h : fnd (L.map fun x : Tq => x.1) s < (L.map fun x : Tq => x.1).length, ¬ ((L.map fun x : Tq => x.1)[fnd (L.map fun x : Tq => x.1) s]'h).1 < s) := fun h => fnd_at h
      have HNONE := Hid.mk' (fun h => fnd_none (s := s) HAsc.out h)
      have HGET := Hid.mk' (fun h e => fnd_get (s := s) HAsc.out h e)
      have HPUT : Hid (tget (L.map (·.1)) s = none → tput (L.map (·.1)) s b = (L.map (·.1)).take (fnd (L.map (·.1)) s) ++ [(s, b)] ++ (L.map (·.1)).drop (fnd (L.map (·.1)) s)) := fun e => by
        unfold tput; rw [e, fnd_take, fnd_drop]; simp
      generalize fnd (L.map (·.1)) s = k at *
      have hkk : (k : Int) ≤ 100000 := by omega
      by_cases hlt : k < L.length
      · have hlt' : (k : Int) < (L.length : Int) := by omega
        obtain ⟨g1, g2⟩ := tcs_get L k hlt
        obtain ⟨_, _, _, ev, _, _, HC⟩ := id HR.out
        cases ev
        obtain ⟨bb, o, rfl, _, e3⟩ := HC _ _ g1
        obtain ⟨b', o', eb, _, e4⟩ := HC _ _ g2
        cases eb
        have e4 : w.cell? ⟨bb, o + k * 2 + 1, none⟩ = some L[k].2 := e4
        have hnlt := HAT.out (by simpa using hlt)
        simp only [List.getElem_map] at hnlt
        have HG2 : Hid (L[k].1.1 = s → tget (L.map (·.1)) s = some L[k].1.2) := fun e => by have := HGET.out (by simpa using hlt) (by simpa using e); simpa using this
        have HN2 : Hid (L[k].1.1 ≠ s → tget (L.map (·.1)) s = none) := fun e => HNONE.out fun h => by simpa using e
        have HQ := Hid.mk' (HE.out L[k] (List.getElem_mem hlt))
        clear g1 g2 HC HAT HGET HNONE
        generalize L[k] = q at *
        have hd : Op.bytesLess q.1.1 s = false := by rw [bytesLess_eq]; simpa using hnlt
        clear hnlt
        by_cases hq : q.1.1 = s
        · have hq1 : (q.1.1 == s) = true := by simpa using hq
          have HV := Hid.mk' (HG2.out hq)
          obtain ⟨da, dc, ed, _⟩ := HQ.out.at
          rw [ed] at e4
          rw [ed] at HQ
          have HEQ := Hid.mk' (requal_any _ _ q.1.2 b w HQ.out HBb.out)
          have HCC : Hid (putC (tget (L.map (·.1))) s b = if q.1.2 == b then 0 else 7) := by show _ = _; unfold putC; rw [HV.out]
          have HPP : Hid (tput (L.map (·.1)) s b = L.map (·.1)) := by show _ = _; unfold tput; rw [HV.out]; rfl
          clear hq
          go_wp2_with fail
          refine HEQ.out.mono ?_
          rintro e w1 ⟨rfl, hd1⟩
          have HT1 := Hid.mk' (HT.out.up (hd1.below _))
          have HD1 := Hid.mk' (hd1.below w.heap.size)
          clear hd1 HEQ
          cases he : (q.1.2 == b) with
          | true =>
            rw [he] at HCC
            go_wp2_with fail
            go_ret2
            exact ⟨_, by rw [HCC.out]; rfl, by rw [HPP.out]; exact HT1.out.monoS fun _ hk => .inl hk, HD1.out⟩
          | false =>
            rw [he] at HCC
            go_wp2_with fail
            go_ret2
            exact ⟨_, by rw [HCC.out]; rfl, by rw [HPP.out]; exact HT1.out.monoS fun _ hk => .inl hk, HD1.out⟩
        · have hq1 : (q.1.1 == s) = false := by simpa using hq
          have HNN := HN2.out hq
          clear hq
          have HN3 := Hid.mk' (HPUT.out HNN)
          obtain ⟨a1, c1, S1, R1⟩ := row_hiN (P := Try.prog) (t := 82) (by kernel_rfl) Try.size82 (by decide) HR.out k hkl
          obtain ⟨a2, c2, S2, R2⟩ := row_loN (P := Try.prog) (t := 82) (by kernel_rfl) Try.size82 (by decide) HR.out k hkl
          rw [tcs_take] at R1
          rw [tcs_drop] at R2
          have R1 := Hid.mk' R1
          have R2 := Hid.mk' R2
          have l1 : (L.take k).length = k := by rw [List.length_take]; omega
          have l2 : (L.drop k).length = L.length - k := List.length_drop
          have E1 : Hid (∀ q ∈ L.take k, ∃ A w, Bs A w q.2 q.1.2) := fun q hq => ⟨_, _, HE.out q (List.mem_of_mem_take hq)⟩
          have E2 : Hid (∀ q ∈ L.drop k, ∃ A w, Bs A w q.2 q.1.2) := fun q hq => ⟨_, _, HE.out q (List.mem_of_mem_drop hq)⟩
          have L1 := Hid.mk' l1
          have L2 := Hid.mk' l2
          have HC := Hid.mk' hkl
          clear l1 l2
          go_wp2_with (at_builtin; go_must (refine app82 (B := w.heap.size) (L := []) (M := L.take k) rfl (.tmp 48) (.tmp 51) rfl rfl (own_empty2 (Nat.le_refl _)) rfl (by rw [L1.out]; exact R1.out.up (up_alloc _ _)) E1.out (by rw [L1.out, List.length_nil]; omega) (by simp) ?_); intro v5 w5 ho5 hg5; have HB5 := Hid.mk' (below_app (up_alloc w _) (own_empty2 (B := w.heap.size) (e := 132) (Nat.le_refl _)) hg5 (Nat.le_refl _) (by simp)); have HO5 := Hid.mk' ho5; clear ho5 hg5)
          obtain ⟨p5, n5, c5, e5⟩ : ∃ a n c, v5 = .slice a n c := (let ⟨a, c, e⟩ := own_sliceN HO5.out; ⟨a, _, c, e⟩)
          subst e5
          have HCP := Hid.mk' (copy_any _ b w5 (HBb.out.up HB5.out))
          refine HCP.out.mono ?_
          rintro e w6 ⟨v6, rfl, hb6, ho6⟩
          have HB6 := Hid.mk' (bt HB5.out hb6)
          obtain ⟨p6, c6, rfl⟩ := own_slice ho6
          have hup := up_alloc w6 (.cells #[.string ⟨s.toArray⟩, .slice p6 b.length c6] 132)
          have HO6 : Hid ((w6.alloc (.cells #[.string ⟨s.toArray⟩, .slice p6 b.length c6] 132)).ownsRow w.heap.size 132 2 (.slice p5 n5 c5) ([] ++ L.take k).length (tcs ([] ++ L.take k))) := World.ownsRow.alloc (own_keep HO5.out hb6 (Nat.le_refl _)) _
          have HB7 := Hid.mk' (bt HB6.out hup)
          have HD6 : Hid (Bs (fun j => w.heap.size ≤ j) w6 (.slice p6 b.length c6) b) := ⟨(Row.of_ownB ho6).monoS fun j hj => Nat.le_trans HB5.out.size hj, HBb.out.2⟩
          have HU7 := Hid.mk' hup
          have HX6 := Hid.mk' (Ob.alloc ho6 (.cells #[.string ⟨s.toArray⟩, .slice p6 b.length c6] 132))
          clear HCP hb6 ho6 hup
          go_wp2_with (first
            | (at_builtin; refine app82 (B := w.heap.size) (L := [] ++ L.take k) (M := [((s, b), .slice p6 b.length c6)]) rfl (.tmp 53) (.tmp 58) rfl rfl HO6.out rfl (one_row2 ((s, b), .slice p6 b.length c6)) (fun q hq => by obtain rfl := List.mem_singleton.1 hq; exact ⟨_, _, HD6.out⟩) (by rw [List.nil_append, L1.out, List.length_singleton]; omega) (by have := HB7.out.size; exact this) ?_; intro v8 w8 ho8 hg8; have HB8 := Hid.mk' (below_app HB7.out HO6.out hg8 (Nat.le_refl _) HB7.out.size); have HO8 := Hid.mk' ho8; have HD8 := Hid.mk' (own_grown_ne HX6.out HO6.out hg8 (by decide)); clear ho8 hg8)
            | (at_builtin; refine app82 (v := v8) (B := w.heap.size) (L := [] ++ L.take k ++ [((s, b), .slice p6 b.length c6)]) (M := L.drop k) rfl (.tmp 60) (.tmp 63) rfl rfl HO8.out rfl (by rw [L2.out]; exact R2.out.up HB8.out) E2.out (by rw [L2.out, List.nil_append, List.length_append, L1.out, List.length_singleton]; omega) HB8.out.size ?_; intro v9 w9 ho9 hg9; have HB9 := Hid.mk' (below_app HB8.out HO8.out hg9 (Nat.le_refl _) HB8.out.size); have HO9 := Hid.mk' ho9; have HG9 := Hid.mk' hg9; clear ho9 hg9))
          have HE9 : Hid (∀ q ∈ [] ++ L.take k ++ [((s, b), Value.slice p6 b.length c6)] ++ L.drop k, Bs (fun k => A k ∨ w.heap.size ≤ k) w9 q.2 q.1.2) := fun q hq => by
            rw [List.nil_append, List.append_assoc, List.mem_append, List.mem_append, List.mem_singleton] at hq
            rcases hq with hq | rfl | hq
            · exact ((HE.out q (List.mem_of_mem_take hq)).up HB9.out).monoS fun _ hk => .inl hk
            · exact ⟨(Row.of_ownB (own_grown_ne HD8.out HO8.out HG9.out (by decide))).monoS fun j hj => .inr (Nat.le_trans HB5.out.size hj), HBb.out.2⟩
            · exact ((HE.out q (List.mem_of_mem_drop hq)).up HB9.out).monoS fun _ hk => .inl hk
          go_ret2
          refine ⟨v9, by rw [show putC (tget (L.map (·.1))) s b = 0 by unfold putC; rw [HNN]]; rfl, ?_, HB9.out⟩
          have h9 := ts_own (A := A) HO9.out (fun q hq => ?_) (by rw [List.nil_append, List.length_append, List.length_append, L1.out, L2.out, List.length_singleton]; omega)
          · rw [HN3.out]
            have e9 : ([] ++ L.take k ++ [((s, b), Value.slice p6 b.length c6)] ++ L.drop k).map (fun x : Tq => x.1) = (L.map (·.1)).take k ++ [(s, b)] ++ (L.map (·.1)).drop k := by simp [List.map_take, List.map_drop]
            rw [e9] at h9; exact h9
          · exact HE9.out q hq
      · have HNN : tget (L.map (·.1)) s = none := HNONE.out fun h => by simp at h; omega
        have HN3 := Hid.mk' (HPUT.out HNN)
        obtain ⟨a1, c1, S1, R1⟩ := row_hiN (P := Try.prog) (t := 82) (by kernel_rfl) Try.size82 (by decide) HR.out k hkl
        obtain ⟨a2, c2, S2, R2⟩ := row_loN (P := Try.prog) (t := 82) (by kernel_rfl) Try.size82 (by decide) HR.out k hkl
        rw [tcs_take] at R1
        rw [tcs_drop] at R2
        have R1 := Hid.mk' R1
        have R2 := Hid.mk' R2
        have l1 : (L.take k).length = k := by rw [List.length_take]; omega
        have l2 : (L.drop k).length = L.length - k := List.length_drop
        have E1 : Hid (∀ q ∈ L.take k, ∃ A w, Bs A w q.2 q.1.2) := fun q hq => ⟨_, _, HE.out q (List.mem_of_mem_take hq)⟩
        have E2 : Hid (∀ q ∈ L.drop k, ∃ A w, Bs A w q.2 q.1.2) := fun q hq => ⟨_, _, HE.out q (List.mem_of_mem_drop hq)⟩
        have L1 := Hid.mk' l1
        have L2 := Hid.mk' l2
        have HC := Hid.mk' hkl
        clear l1 l2
        go_wp2_with (at_builtin; go_must (refine app82 (B := w.heap.size) (L := []) (M := L.take k) rfl (.tmp 48) (.tmp 51) rfl rfl (own_empty2 (Nat.le_refl _)) rfl (by rw [L1.out]; exact R1.out.up (up_alloc _ _)) E1.out (by rw [L1.out, List.length_nil]; omega) (by simp) ?_); intro v5 w5 ho5 hg5; have HB5 := Hid.mk' (below_app (up_alloc w _) (own_empty2 (B := w.heap.size) (e := 132) (Nat.le_refl _)) hg5 (Nat.le_refl _) (by simp)); have HO5 := Hid.mk' ho5; clear ho5 hg5)
        obtain ⟨p5, n5, c5, e5⟩ : ∃ a n c, v5 = .slice a n c := (let ⟨a, c, e⟩ := own_sliceN HO5.out; ⟨a, _, c, e⟩)
        subst e5
        have HCP := Hid.mk' (copy_any _ b w5 (HBb.out.up HB5.out))
        refine HCP.out.mono ?_
        rintro e w6 ⟨v6, rfl, hb6, ho6⟩
        have HB6 := Hid.mk' (bt HB5.out hb6)
        obtain ⟨p6, c6, rfl⟩ := own_slice ho6
        have hup := up_alloc w6 (.cells #[.string ⟨s.toArray⟩, .slice p6 b.length c6] 132)
        have HO6 : Hid ((w6.alloc (.cells #[.string ⟨s.toArray⟩, .slice p6 b.length c6] 132)).ownsRow w.heap.size 132 2 (.slice p5 n5 c5) ([] ++ L.take k).length (tcs ([] ++ L.take k))) := World.ownsRow.alloc (own_keep HO5.out hb6 (Nat.le_refl _)) _
        have HB7 := Hid.mk' (bt HB6.out hup)
        have HD6 : Hid (Bs (fun j => w.heap.size ≤ j) w6 (.slice p6 b.length c6) b) := ⟨(Row.of_ownB ho6).monoS fun j hj => Nat.le_trans HB5.out.size hj, HBb.out.2⟩
        have HU7 := Hid.mk' hup
        have HX6 := Hid.mk' (Ob.alloc ho6 (.cells #[.string ⟨s.toArray⟩, .slice p6 b.length c6] 132))
        clear HCP hb6 ho6 hup
        go_wp2_with (first
          | (at_builtin; refine app82 (B := w.heap.size) (L := [] ++ L.take k) (M := [((s, b), .slice p6 b.length c6)]) rfl (.tmp 53) (.tmp 58) rfl rfl HO6.out rfl (one_row2 ((s, b), .slice p6 b.length c6)) (fun q hq => by obtain rfl := List.mem_singleton.1 hq; exact ⟨_, _, HD6.out⟩) (by rw [List.nil_append, L1.out, List.length_singleton]; omega) (by have := HB7.out.size; exact this) ?_; intro v8 w8 ho8 hg8; have HB8 := Hid.mk' (below_app HB7.out HO6.out hg8 (Nat.le_refl _) HB7.out.size); have HO8 := Hid.mk' ho8; have HD8 := Hid.mk' (own_grown_ne HX6.out HO6.out hg8 (by decide)); clear ho8 hg8)
          | (at_builtin; refine app82 (v := v8) (B := w.heap.size) (L := [] ++ L.take k ++ [((s, b), .slice p6 b.length c6)]) (M := L.drop k) rfl (.tmp 60) (.tmp 63) rfl rfl HO8.out rfl (by rw [L2.out]; exact R2.out.up HB8.out) E2.out (by rw [L2.out, List.nil_append, List.length_append, L1.out, List.length_singleton]; omega) HB8.out.size ?_; intro v9 w9 ho9 hg9; have HB9 := Hid.mk' (below_app HB8.out HO8.out hg9 (Nat.le_refl _) HB8.out.size); have HO9 := Hid.mk' ho9; have HG9 := Hid.mk' hg9; clear ho9 hg9))
        have HE9 : Hid (∀ q ∈ [] ++ L.take k ++ [((s, b), Value.slice p6 b.length c6)] ++ L.drop k, Bs (fun k => A k ∨ w.heap.size ≤ k) w9 q.2 q.1.2) := fun q hq => by
          rw [List.nil_append, List.append_assoc, List.mem_append, List.mem_append, List.mem_singleton] at hq
          rcases hq with hq | rfl | hq
          · exact ((HE.out q (List.mem_of_mem_take hq)).up HB9.out).monoS fun _ hk => .inl hk
          · exact ⟨(Row.of_ownB (own_grown_ne HD8.out HO8.out HG9.out (by decide))).monoS fun j hj => .inr (Nat.le_trans HB5.out.size hj), HBb.out.2⟩
          · exact ((HE.out q (List.mem_of_mem_drop hq)).up HB9.out).monoS fun _ hk => .inl hk
        go_ret2
        refine ⟨v9, by rw [show putC (tget (L.map (·.1))) s b = 0 by unfold putC; rw [HNN]]; rfl, ?_, HB9.out⟩
        have h9 := ts_own (A := A) HO9.out (fun q hq => ?_) (by rw [List.nil_append, List.length_append, List.length_append, L1.out, L2.out, List.length_singleton]; omega)
        · rw [HN3.out]
          have e9 : ([] ++ L.take k ++ [((s, b), Value.slice p6 b.length c6)] ++ L.drop k).map (fun x : Tq => x.1) = (L.map (·.1)).take k ++ [(s, b)] ++ (L.map (·.1)).drop k := by simp [List.map_take, List.map_drop]
          rw [e9] at h9; exact h9
        · exact HE9.out q hq
end Go.Proofs.Ytfmbbpfklhkljaa
