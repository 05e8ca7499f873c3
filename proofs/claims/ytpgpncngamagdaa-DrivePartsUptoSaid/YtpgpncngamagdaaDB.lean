/- drive.List, Size, Dead, Arm, Wipe. -/
import Derived.Test.YtpgpncngamagdaaRN
import Derived.Test.YtpgpncngamagdaaDY
import Derived.Sort.KeysCollected
set_option linter.unusedVariables false
set_option linter.unusedSimpArgs false
namespace Go.Proofs.Ytpgpncngamagdaa
open Go.RowKit
attribute [local go_sem ↓] Go.wp_at_zero Go.wp_at_succ
/-- L are the keys of f, rising -/
def Keys {α : Type} (f : List UInt8 → Option α) (n : Nat) (L : List (List UInt8)) : Prop := L.Pairwise (fun a b => a < b) ∧ (∀ s, s ∈ L ↔ (f s).isSome = true) ∧ L.length = n ∧ ∀ s ∈ L, s.length ≤ maxLen
theorem lt_of_le_ne {a b : List UInt8} (h : a ≤ b) (hn : a ≠ b) : a < b := by
  refine Classical.byContradiction fun h1 => hn (List.le_antisymm h (List.not_lt.1 h1))
theorem rising_of {l : List (List UInt8)} (hn : l.Nodup) : (l.mergeSort leB).Pairwise (fun a b => a < b) := by
  have tr : ∀ a b c : List UInt8, leB a b = true → leB b c = true → leB a c = true := fun a b c h1 h2 => by simp only [leB, decide_eq_true_eq] at *; exact List.le_trans h1 h2
  have tot : ∀ a b : List UInt8, (leB a b || leB b a) = true := fun a b => by simp only [leB, Bool.or_eq_true, decide_eq_true_eq]; exact List.le_total a b
  have h1 := List.pairwise_mergeSort tr tot l
  have h2 : (l.mergeSort leB).Nodup := (List.mergeSort_perm l leB).nodup_iff.2 hn
  refine (h1.and h2).imp fun {a b} h => lt_of_le_ne (by simpa [leB] using h.1) h.2
theorem keys_of {w : World} {M n : Nat} {g : List UInt8 → Option Value} (hm : MapF Try.prog 9 w M g n) : ∃ D : DataW Value, w.ownsMap Try.prog 9 hR M n D ∧ Maps.size D = n ∧ ∀ ss : List (List UInt8), ss.Perm (strKeys D) → Keys g n (ss.mergeSort leB) := by
  obtain ⟨D, h, hs, hT, hf⟩ := hm
  refine ⟨D, h, hs, fun ss hp => ?_⟩
  have hle := strKeys_le h Try.underlying9
  obtain ⟨es, hD, hpw⟩ := hT
  obtain ⟨es', hD', hko⟩ := h.keysOf
  obtain rfl : es = es' := by rw [hD] at hD'; simpa using hD'
  have hk : ∀ p ∈ es, ∃ x, p.1 = .string x := fun p hp => by obtain ⟨v, hv⟩ := hko p hp; obtain ⟨x, _, hx, _⟩ := Maps.keyOf_str Try.underlying9 hv; exact ⟨x, hx⟩
  have hnd : (strKeys D).Nodup := by
    subst hD
    show (es.map fun p => Go.strOf p.1).Nodup
    refine List.pairwise_map.2 (hpw.imp_of_mem fun {p q} hp' hq' hne e => hne ?_)
    obtain ⟨a, ha⟩ := hk p hp'
    obtain ⟨b, hb⟩ := hk q hq'
    rw [ha, hb] at e ⊢
    exact congrArg _ e
  have hmem : ∀ x, x ∈ strKeys D ↔ (g x).isSome = true := fun x => by
    rw [← (hf x).1]
    subst hD
    rw [Maps.has_eq, List.any_eq_true]
    show x ∈ (es.map fun p => Go.strOf p.1) ↔ _
    rw [List.mem_map]
    constructor
    · rintro ⟨p, hp', rfl⟩
      obtain ⟨a, ha⟩ := hk p hp'
      exact ⟨p, hp', by rw [ha]; simp [Lit.sameKey, Go.strOf]⟩
    · rintro ⟨p, hp', hs⟩
      obtain ⟨a, ha⟩ := hk p hp'
      rw [ha] at hs
      exact ⟨p, hp', by rw [ha]; simpa [Lit.sameKey, Go.strOf] using hs⟩
  have hps := (List.mergeSort_perm ss leB).trans hp
  refine ⟨rising_of (hp.nodup_iff.2 hnd), fun s => by rw [hps.mem_iff, hmem], ?_, fun s hs => hle s (hps.mem_iff.1 hs)⟩
  rw [hps.length_eq, ← hs, hD]
  show (es.map fun p => Go.strOf p.1).length = _
  simp [Maps.size]
theorem Keys.map {α β : Type} {f : List UInt8 → Option α} {g : List UInt8 → Option β} {n : Nat} {L : List (List UInt8)} (h : Keys f n L) (he : ∀ s, (f s).isSome = (g s).isSome) : Keys g n L := ⟨h.1, fun s => by rw [h.2.1 s, he s], h.2.2⟩
theorem so_of_enc {B : Nat} {w : World} {v : Value} {ss : List (List UInt8)} (h : w.ownsRow B 9 1 v ss.length ((ss.mergeSort leB).map encStr)) : So 9 B w v (ss.mergeSort leB) := by
  unfold So
  rw [List.length_mergeSort]
  exact h

/-- two rising lists of the same names are one -/
theorem rising_eq {l m : List (List UInt8)} (hl : l.Pairwise fun a b => a < b) (hm : m.Pairwise fun a b => a < b) (h : ∀ x, x ∈ l ↔ x ∈ m) : l = m := by
  have nd : ∀ {l : List (List UInt8)}, (l.Pairwise fun a b => a < b) → l.Nodup := fun hl => hl.imp fun {a b} hab e => by subst e; exact by_irr _ hab
  refine List.Perm.eq_of_pairwise (le := fun a b => a < b) (fun a b _ _ h1 h2 => absurd (by_tr h1 h2) (by_irr _)) hl hm ((List.perm_ext_iff_of_nodup (nd hl) (nd hm)).2 h)

theorem keys_fl {F : Fl} (hF : Srt F) {n : Nat} {L : List By} (h : Keys (fget F) n L) : L = F.map (·.1) := by
  refine rising_eq h.1 (List.pairwise_map.2 hF) fun x => ?_
  rw [h.2.1 x]
  constructor
  · intro hx
    obtain ⟨l, hl⟩ := Option.isSome_iff_exists.1 hx
    exact List.mem_map.2 ⟨_, fget_mem hl, rfl⟩
  · intro hx
    obtain ⟨t, ht, rfl⟩ := List.mem_map.1 hx
    rw [fget_of_mem hF (s := t.1) (l := t.2) ht]; rfl
def lsD (d : Dm) (p : By) : List By := if d.dead then [] else nms d.seen p
set_option maxRecDepth 100000 in
set_option maxHeartbeats 2000000 in
/-- drive.List -/
theorem list_any {M D : Nat → Prop} {w : World} {b : Nat} {d : Dm} (p : By) (h : DrIs M D w b d) (hp : p.length ≤ maxLen) (hn : d.seen.length ≤ 1000000) :
    Calls Try.prog 29 #[.pointer (some ⟨b, 0, none⟩), .string ⟨p.toArray⟩] w (RlPost w (lsD d p)) := by
  have hmf : ∀ (fn : Fn) (first cap : Array Value) (w : World), (Instr.makeFunc fn first cap).run Try.prog w = .ok (.func fn first cap) w := fun _ _ _ _ => rfl
  obtain ⟨ms, mv, q, hb, h1, h2, h3, h4⟩ := h.ex
  obtain ⟨⟨c0, c1, c2, c3, c4, c5, c6⟩, c7⟩ := box7 hb
  have hbl : b < w.heap.size := (Array.getElem?_eq_some_iff.1 hb).1
  have HL : Hid (lsD d p = if d.dead = true then [] else nms d.seen p) := rfl
  have HF := Hid.mk' h2
  have HN := Hid.mk' hn
  generalize lsD d p = LS at *
  clear h hb h1 h2 h3 h4 c0 c2 c3 c4 c5 c7 hn
  generalize d.dead = dd at *
  generalize d.seen = F at *
  cases dd
  case true =>
    have hl : LS = [] := by rw [HL.out]; rfl
    subst hl
    clear HL
    go_enter Try.func29, Try.ntmps29
    go_wp2_with fail
    go_ret
    exact ⟨_, rfl, so_nil, up_alloc _ _⟩
  case false =>
  have hl : LS = nms F p := by rw [HL.out]; rfl
  subst hl
  clear HL
  have HC : Hid ((w.alloc (.cells #[.string ⟨p.toArray⟩] 9)).cell? ⟨w.heap.size, 0, none⟩ = some (.string ⟨p.toArray⟩)) := by show _ = _; simp
  have HZ : Hid ((w.alloc (.cells #[.string ⟨p.toArray⟩] 9)).heap.size = w.heap.size + 1) := by show _ = _; simp
  have HW := Hid.mk' (up_alloc w (.cells #[.string ⟨p.toArray⟩] 9))
  rcases HF.out with ⟨rfl, rfl⟩ | ⟨k, rfl, hMk, hS, g, hm, hg⟩
  · clear HF
    go_enter Try.func29, Try.ntmps29
    go_wp2_with fail
    obtain ⟨W, hW⟩ : ∃ W, W = w.alloc (.cells #[.string ⟨p.toArray⟩] 9) := ⟨_, rfl⟩
    rw [← hW] at HC HZ HW ⊢
    clear hW
    refine (callsIn_wide.1 (Try.maps_Keys_62 none W)).mono ?_
    rintro e w1 ⟨rfl, rfl⟩
    go_wp2_with fail
    refine (callsIn_wide.1 (Try.slices_Sorted_keys_nil_61_62 W)).mono ?_
    rintro e w2 ⟨v, ss, rfl, rfl, hrow, hv, hb2⟩
    have hso : So 9 (W.alloc (.cells #[.map none] 43)).heap.size w2 v [] := by have := so_of_enc hrow; simpa using this
    obtain ⟨va, vc, ev⟩ := hso.slice
    subst ev
    have HX := Hid.mk' (bt HW.out (bt (up_alloc W _) hb2))
    have HD := Hid.mk' (c89 (p := p) hso (by decide) (by simp) hp (by rw [cell_later (bt (up_alloc W _) hb2) HC.out]) (by have := HZ.out; simp; omega))
    have HS := Hid.mk' hso
    clear hrow hv hb2 hso
    go_wp2_with fail
    refine HD.out.mono ?_
    rintro e w3 ⟨v', rfl, h1, h2⟩
    have H1 := Hid.mk' h1
    have H2 := Hid.mk' h2
    clear h1 h2 HD
    go_wp2_with fail
    go_ret
    refine ⟨_, rfl, H1.out.mono (by have := HZ.out; simp; omega), ?_⟩
    exact HX.out.trans (H2.out.below HX.out.size fun k hk => by have := (HS.out.lt k hk).1; have := HZ.out; simp at *; omega)
  · have HG := Hid.mk' hg
    have HM := Hid.mk' hm
    have HSrt := Hid.mk' hS
    clear hg hm HF hMk hS
    go_enter Try.func29, Try.ntmps29
    go_wp2_with fail
    obtain ⟨W, hW⟩ : ∃ W, W = w.alloc (.cells #[.string ⟨p.toArray⟩] 9) := ⟨_, rfl⟩
    rw [← hW] at HC HZ HW ⊢
    clear hW
    obtain ⟨Dd, hD, hDs, hK⟩ := keys_of (HM.out.block (HW.out.block k HM.out.lt))
    have HK := Hid.mk' hK
    have HS := Hid.mk' (Try.slices_Sorted_keys_61_62 k F.length Dd hR W hD (by rw [hDs]; have := HN.out; unfold maxLen; omega) (by rw [hDs]; have := HN.out; omega))
    clear hD hDs hK
    refine (callsIn_wide.1 (Try.maps_Keys_62 (some k) W)).mono ?_
    rintro e w1 ⟨rfl, rfl⟩
    go_wp2_with fail
    refine (callsIn_wide.1 HS.out).mono ?_
    rintro e w2 ⟨v, ss, rfl, hS, hrow, hv, hb2⟩
    have HLk := HK.out ss hS
    have hso := so_of_enc hrow
    generalize ss.mergeSort leB = L at *
    have HLk := Hid.mk' HLk
    have HLF : Hid (L = F.map (·.1)) := keys_fl HSrt.out (HLk.out.map fun s => by
      rcases HG.out s with ⟨a1, a2⟩ | ⟨x, y, a1, a2, _⟩ <;> rw [a1, a2] <;> rfl)
    obtain ⟨va, vc, ev⟩ := hso.slice
    subst ev
    have HX := Hid.mk' (bt HW.out (bt (up_alloc W _) hb2))
    have HD := Hid.mk' (c89 (p := p) hso (by rw [HLk.out.2.2.1]; have := HN.out; unfold lim; omega) HLk.out.2.2.2 hp (by rw [cell_later (bt (up_alloc W _) hb2) HC.out]) (by have := HZ.out; simp; omega))
    have HSo := Hid.mk' hso
    clear hrow hv hb2 HS HK hso hS
    go_wp2_with fail
    refine HD.out.mono ?_
    rintro e w3 ⟨v', rfl, h1, h2⟩
    have H1 := Hid.mk' h1
    have H2 := Hid.mk' h2
    clear h1 h2 HD
    go_wp2_with fail
    go_ret
    refine ⟨_, rfl, ?_, ?_⟩
    · have h1 := H1.out
      rw [HLF.out] at h1
      exact So.mono h1 (by have := HZ.out; simp; omega)
    · exact HX.out.trans (H2.out.below HX.out.size fun k hk => by have := (HSo.out.lt k hk).1; have := HZ.out; simp at *; omega)
/-- drive.Dead -/
theorem dead_any {M D : Nat → Prop} {w : World} {b : Nat} {d : Dm} (h : DrIs M D w b d) : Calls Try.prog 31 #[.pointer (some ⟨b, 0, none⟩)] w fun E w' => E = .returned (.bool d.dead) ∧ w = w' := by
  obtain ⟨ms, mv, q, hb, h1, h2, h3, h4⟩ := h.ex
  obtain ⟨⟨c0, c1, c2, c3, c4, c5, c6⟩, c7⟩ := box7 hb
  clear h h1 h2 h3 h4 hb c0 c1 c2 c3 c4 c5
  generalize d.dead = x at *
  go_enter Try.func31, Try.ntmps31
  go_wp2
  go_ret
  exact ⟨rfl, rfl⟩
def szD (d : Dm) (n : By) : Int := if d.dead then 0 else ((foz d.seen n).length : Int)
/-- drive.Size -/
theorem size_any {M D : Nat → Prop} {w : World} {b : Nat} {d : Dm} (n : By) (h : DrIs M D w b d) (hn : n.length ≤ maxLen) : Calls Try.prog 30 #[.pointer (some ⟨b, 0, none⟩), .string ⟨n.toArray⟩] w fun E w' => E = .returned (.int .i64 (szD d n)) ∧ w = w' := by
  obtain ⟨ms, mv, q, hb, h1, h2, h3, h4⟩ := h.ex
  obtain ⟨⟨c0, c1, c2, c3, c4, c5, c6⟩, c7⟩ := box7 hb
  obtain ⟨v0, _, hlk, hv0, _⟩ := h2.look n hn
  obtain ⟨va, vc, rfl, _⟩ := hv0.at
  have HS : Hid (szD d n = if d.dead = true then 0 else ((foz d.seen n).length : Int)) := rfl
  generalize szD d n = z at *
  clear h h1 h2 h3 h4 hb c0 c2 c3 c4 c5 hv0
  generalize d.dead = x at *
  cases x
  · have hz : z = ((foz d.seen n).length : Int) := by rw [HS.out]; rfl
    subst hz
    clear HS
    go_enter Try.func30, Try.ntmps30
    go_wp2
    go_ret
    exact ⟨rfl, rfl⟩
  · have hz : z = 0 := by rw [HS.out]; rfl
    subst hz
    clear HS
    go_enter Try.func30, Try.ntmps30
    go_wp2
    go_ret
    exact ⟨rfl, rfl⟩
set_option maxRecDepth 100000 in
set_option maxHeartbeats 2000000 in
/-- drive.Arm -/
theorem arm_any {M D : Nat → Prop} {w : World} {b : Nat} {d : Dm} (n : Int) (h : DrIs M D w b d) (hn : n ≤ 9223372036854775807) : Calls Try.prog 32 #[.pointer (some ⟨b, 0, none⟩), .int .i64 n] w fun E w' => E = .returned (.tuple #[]) ∧ Turned M D w b (arD d n) w' := by
  obtain ⟨ms, mv, q, hb, h1, h2, h3, h4⟩ := h.ex
  obtain ⟨⟨c0, c1, c2, c3, c4, c5, c6⟩, c7⟩ := box7 hb
  have HB := Hid.mk' (box7_set (o := 5) (box7_set (o := 4) hb (.bool (decide (0 ≤ n)))) (.int .i64 n))
  have HT : Hid (Turned M D w b (arD d n) ((w.setCell ⟨b, 4, none⟩ (.bool (decide (0 ≤ n)))).setCell ⟨b, 5, none⟩ (.int .i64 n))) := by
    have hw : Wb (fun k => k = b) w ((w.setCell ⟨b, 4, none⟩ (.bool (decide (0 ≤ n)))).setCell ⟨b, 5, none⟩ (.int .i64 n)) := (Wb.set (X := fun k => k = b) _ _ _ _ rfl).trans (Wb.set _ _ _ _ rfl)
    refine DrIs.turned (DrIs.boxed (ms := ms) (mv := mv) (q := q) hw HB.out h1 h2 h3 h4 h.hD h.hM fun hh => ?_) hw
    have : 0 ≤ n := by simpa [arD] using hh
    exact ⟨this, hn⟩
  clear h h1 h2 h3 h4 hb hn HB
  go_enter Try.func32, Try.ntmps32
  go_wp2_with fail
  go_end0
  exact ⟨rfl, HT.out⟩
set_option maxRecDepth 100000 in
set_option maxHeartbeats 2000000 in
/-- drive.Wipe -/
theorem wipe_any {M D : Nat → Prop} {w : World} {b : Nat} {d : Dm} (h : DrIs M D w b d) : Calls Try.prog 57 #[.pointer (some ⟨b, 0, none⟩)] w fun E w' => E = .returned (.tuple #[]) ∧ Turned M D w b (wpD d) w' := by
  obtain ⟨ms, mv, q, hb, h1, h2, h3, h4⟩ := h.ex
  obtain ⟨⟨c0, c1, c2, c3, c4, c5, c6⟩, c7⟩ := box7 hb
  obtain ⟨qa, qn, qc, rfl⟩ : ∃ qa qn qc, q = .slice qa qn qc := by obtain ⟨vs, hr, _⟩ := h3; obtain ⟨_, a, c, e, _⟩ := hr; exact ⟨a, _, c, e⟩
  obtain ⟨W9, hW9⟩ : ∃ W9, W9 = (((((w.setCell ⟨b, 0, none⟩ (.map none)).setCell ⟨b, 1, none⟩ (.map none)).setCell ⟨b, 2, none⟩ (.slice none 0 0)).setCell ⟨b, 6, none⟩ (.bool false)).setCell ⟨b, 4, none⟩ (.bool false)).setCell ⟨b, 5, none⟩ (.int .i64 0) := ⟨_, rfl⟩
  have HT : Hid (Turned M D w b (wpD d) W9) := by
    have hw : Wb (fun k => k = b) w W9 := by rw [hW9]; exact (((((Wb.set (X := fun k => k = b) _ _ _ _ rfl).trans (Wb.set _ _ _ _ rfl)).trans (Wb.set _ _ _ _ rfl)).trans (Wb.set _ _ _ _ rfl)).trans (Wb.set _ _ _ _ rfl)).trans (Wb.set _ _ _ _ rfl)
    have hbx : W9.heap[b]? = some (.cells #[.map none, .map none, .slice none 0 0, .int .i64 d.room, .bool false, .int .i64 0, .bool false] 46 (0, 0)) := by rw [hW9, box7_set (box7_set (box7_set (box7_set (box7_set (box7_set hb _) _) _) _) _) _]; rfl
    exact DrIs.turned (DrIs.boxed (ms := none) (mv := none) (q := .slice none 0 0) hw hbx (.inl ⟨rfl, rfl⟩) (.inl ⟨rfl, rfl⟩) (QueueIs.nil _ _) (fun k hk => by cases hk) h.hD h.hM fun hh => by cases hh) hw
  have HW := Hid.mk' hW9
  clear h h1 h2 h3 h4 hb hW9
  go_enter Try.func57, Try.ntmps57
  go_wp2_with fail
  go_end0
  exact ⟨rfl, by rw [← HW.out]; exact HT.out⟩
end Go.Proofs.Ytpgpncngamagdaa
