/- vault.Lose. -/
import Derived.Test.YtfmbbpfklhkljaaVQ
set_option linter.unusedVariables false
set_option linter.unusedSimpArgs false
namespace Go.Proofs.Ytfmbbpfklhkljaa
open Go.RowKit
def loseF (f : List UInt8 → Option (List UInt8)) (ns : List (List UInt8)) (x : List UInt8) : Option (List UInt8) := if ns.contains x then none else f x
theorem loseF_take (f : List UInt8 → Option (List UInt8)) (ns : List (List UInt8)) (k : Nat) (h : k < ns.length) : loseF f (ns.take (k + 1)) = fun x => if x = ns[k] then none else loseF f (ns.take k) x := by
  funext x
  unfold loseF
  rw [contains_take ns x k h]
  by_cases e : x = ns[k]
  · simp [e]
  · have : (x == ns[k]) = false := by simpa using e
    rw [this, Bool.or_false, if_neg e]
theorem Ss.but {b : Nat} {A : Nat → Prop} {w w' : World} {v : Value} {l : List (List UInt8)} (h : Ss A w v l) (hk : CellsBut b w w') {r : Option Nat} {e : TypeId} {fr : Nat × Nat} (hb : w.heap[b]? = some (.cells #[.map r] e fr)) : Ss A w' v l :=
  ⟨h.1.but hk hb (by simp [sv]), h.2⟩
/-- one name is taken away -/
theorem VaultIs.drop {B b n M : Nat} {V : Nat → Prop} {w w' : World} {f : List UInt8 → Option (List UInt8)} {g : List UInt8 → Option Value} (s : List UInt8) (hB : B ≤ b) (hM : B ≤ M) (h : w.heap[b]? = some (.cells #[.map (some M)] 81 (0, 0))) (hm : MapF Try.prog 9 w M g n)
    (hf : ∀ s, (g s = none ∧ f s = none) ∨ ∃ v l, g s = some v ∧ f s = some l ∧ Ob 5 B w v l ∧ l.length ≤ lim ∧ ∀ k, v.ownBlock = some k → V k) (hm2 : MapF Try.prog 9 w' M (fun x => if x = s then none else g x) (if (g s).isSome then n - 1 else n)) (hg : w.grownBy w' (some M)) :
    VaultIs B V w' b (fun x => if x = s then none else f x) (if (g s).isSome then n - 1 else n) ∧ CellsBut b w w' ∧ Below B w w' := by
  have hne : b ≠ M := by
    rintro rfl
    obtain ⟨es, cl, h'⟩ := hm.is
    rw [h] at h'; cases h'
  have hmap : ∀ c e fr, w.heap[M]? ≠ some (.cells c e fr) := by
    intro c e fr h
    obtain ⟨es, cl, h'⟩ := hm.is
    rw [h'] at h; cases h
  have hk : CellsBut b w w' := CellsBut.of_grown hg hmap
  refine ⟨⟨hB, .inr ⟨M, _, hM, ?_, hm2, fun x => ?_⟩⟩, hk, Below.grown (Below.refl _ _) hg (by have := hm.lt; omega) (fun k hk => by cases hk; exact hM)⟩
  · rw [hg.block b (Array.getElem?_eq_some_iff.1 h).1 (by simpa using hne)]; exact h
  · by_cases hx : x = s
    · simp [hx]
    · simp only [if_neg hx]
      rcases hf x with h1 | ⟨v, l', h1, h2, h3, h4⟩
      · exact .inl h1
      · exact .inr ⟨v, l', h1, h2, h3.but hk h (by decide), h4⟩
def LosePost (B b n : Nat) (V : Nat → Prop) (w : World) (f : List UInt8 → Option (List UInt8)) (ns : List (List UInt8)) (e : Ending) (w' : World) : Prop :=
  ∃ n' : Nat, e = .returned (.int .i64 ((n : Int) - n')) ∧ VaultIs B V w' b (loseF f ns) n' ∧ Below B w w' ∧ CellsBut b w w'
theorem len_vault {B b n : Nat} {V : Nat → Prop} {w : World} {f : List UInt8 → Option (List UInt8)} (h : VaultIs B V w b f n) : ∃ r, w.cell? ⟨b, 0, none⟩ = some (.map r) ∧ ∀ ty, (Builtin.len_ #[79] ty #[.map r]).run Try.prog w = .ok (.int .i64 n) w := by
  obtain ⟨hB, ⟨h, rfl, hf⟩ | ⟨M, g, hM, h, hm, hf⟩⟩ := h
  · exact ⟨none, (cell_of h).1, fun ty => Maps.len_nil (w := w) Try.underlying79 ty⟩
  · exact ⟨some M, (cell_of h).1, fun ty => hm.len Try.underlying79 ty⟩
theorem VaultIs.congr {B b n : Nat} {V : Nat → Prop} {w : World} {f g : List UInt8 → Option (List UInt8)} (h : VaultIs B V w b f n) (e : f = g) : VaultIs B V w b g n := by rw [← e]; exact h
/-- delete of a name -/
theorem drop_run {B b n : Nat} {V : Nat → Prop} {w : World} {f : List UInt8 → Option (List UInt8)} (h : VaultIs B V w b f n) (s : List UInt8) (hs : s.length ≤ maxLen) : ∃ r w' n', w.cell? ⟨b, 0, none⟩ = some (.map r) ∧ (Builtin.delete_ #[79, 9] 0 #[.map r, .string ⟨s.toArray⟩]).run Try.prog w = .ok (.tuple #[]) w' ∧ n' ≤ n ∧ VaultIs B V w' b (fun x => if x = s then none else f x) n' ∧ Below B w w' ∧ CellsBut b w w' := by
  obtain ⟨hB, ⟨h, rfl, hf⟩ | ⟨M, g, hM, h, hm, hf⟩⟩ := h
  · refine ⟨none, w, 0, (cell_of h).1, Maps.drop_nil (Maps.string_keyed Try.underlying9) Try.underlying79 (WideMaps.keyOf_string_mk Try.underlying9 (s := ⟨s.toArray⟩) hs) 0, Nat.le_refl _, ⟨hB, .inl ⟨h, rfl, fun x => by simp [hf x]⟩⟩, Below.refl _ _, CellsBut.refl _ _⟩
  · obtain ⟨w', r1, r2, r3⟩ := hm.drop Try.underlying9 Try.underlying79 s hs 0
    obtain ⟨p1, p2, p3⟩ := VaultIs.drop s hB hM h hm hf r2 r3
    exact ⟨some M, w', _, (cell_of h).1, r1, by split <;> omega, p1, p3, p2⟩
set_option maxRecDepth 100000 in
set_option maxHeartbeats 1000000 in
/-- vault.Lose -/
theorem lose_any {A V : Nat → Prop} {B b n : Nat} {w : World} {u : Value} {f : List UInt8 → Option (List UInt8)} {ns : List (List UInt8)} (hI : VaultIs B V w b f n) (h : Ss A w u ns) (hs : ∀ s ∈ ns, s.length ≤ maxLen) (hn : n ≤ 1000000) :
    Calls Try.prog 51 #[.pointer (some ⟨b, 0, none⟩), u] w (LosePost B b n V w f ns) := by
  obtain ⟨a, c, rfl, hc, _, _⟩ := h.at
  obtain ⟨r0, hc0, hl0⟩ := len_vault hI
  have HS := Hid.mk' h
  have HN := Hid.mk' hs
  have hns : (ns.length : Int) ≤ 8796093021952 := by have : ns.length * 16 ≤ 140737488351232 := h.2; omega
  have hnn : (n : Int) ≤ 1000000 := by omega
  have HV0 : Hid (VaultIs B V w b (loseF f (ns.take 0)) n) := hI.congr (by funext x; simp [loseF])
  have HBX := Hid.mk' hI.box
  clear h hI hs
  go_enter Try.func51, Try.ntmps51
  go_wp2_with fail
  clear hl0 hc0
  go_loopw [15] (fun i wr => ∃ k m : Nat, k ≤ ns.length ∧ i = .int .i64 k ∧ m ≤ n ∧ Hid (VaultIs B V wr b (loseF f (ns.take k)) m) ∧ Hid (Below B w wr) ∧ Hid (CellsBut b w wr)) (fun i _ => ns.length - (intOf i).toNat)
  case atStart => exact ⟨0, n, by omega, rfl, Nat.le_refl _, HV0, Below.refl _ _, CellsBut.refl _ _⟩
  case round =>
    clear HV0
    obtain ⟨k, m, hk, rfl, hm, HV, HB, HC⟩ := hrel
    by_cases hlt : k < ns.length
    · have hlt' : (k : Int) < (ns.length : Int) := by omega
      obtain ⟨rb, hrb⟩ := HBX.out
      obtain ⟨_, _, ec, _, _, H⟩ := (HS.out.but HC.out hrb).at
      cases ec
      obtain ⟨b', o, rfl, _, hu⟩ := H k hlt
      obtain ⟨r, w', n', q1, q2, q3, q4, q5, q6⟩ := drop_run HV.out ns[k] (HN.out _ (List.getElem_mem hlt))
      have HV2 := Hid.mk' (q4.congr (loseF_take f ns k hlt).symm)
      have HB2 := Hid.mk' (HB.out.trans q5)
      have HC2 := Hid.mk' (HC.out.trans q6)
      have q3 := Nat.le_trans q3 hm
      clear H q4 q5 q6 hrb hm
      generalize ns[k] = s at *
      go_wp2_with fail
      go_roundw
      case rel => exact ⟨k + 1, n', by omega, by go_num, q3, HV2, HB2, HC2⟩
      case measure => simp [intOf]; omega
    · obtain rfl : k = ns.length := by omega
      have HV2 : Hid (VaultIs B V wr b (loseF f ns) m) := HV.out.congr (by rw [List.take_length])
      obtain ⟨r1, hc1, hl1⟩ := len_vault HV.out
      have hm' : (m : Int) ≤ 1000000 := by omega
      clear HV
      go_wp2_with fail
      go_ret
      exact ⟨m, rfl, HV2.out, HB.out, HC.out⟩
end Go.Proofs.Ytfmbbpfklhkljaa
