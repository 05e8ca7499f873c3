/- groyneref01.Over; vault.Get. vault.List: the names that lie there, in their order. -/
import Derived.Test.YtojgkjpmphfakaaGreatDoorVI
import Derived.Test.YtojgkjpmphfakaaGreatDoorVD
import Derived.Test.YtojgkjpmphfakaaGreatDoorW3
import Derived.Sort.KeysCollected
set_option linter.unusedVariables false
set_option linter.unusedSimpArgs false
namespace Go.Proofs.YtojgkjpmphfakaaGreatDoor
open Go.RowKit
def ovr (n : Nat) (l : List UInt8) : List UInt8 := (l.take n).map (fun x => x ^^^ 255) ++ l.drop n
theorem ovr_len (n : Nat) (l : List UInt8) : (ovr n l).length = l.length := by simp [ovr]; have := Nat.min_le_left n l.length; omega
theorem ovr_zero (l : List UInt8) : ovr 0 l = l := by simp [ovr]
theorem ovr_get (n : Nat) (l : List UInt8) (h : n < l.length) : (ovr n l)[n]'(by rw [ovr_len]; exact h) = l[n] := by
  unfold ovr
  rw [List.getElem_append_right (by simp; exact Nat.min_le_left _ _)]
  simp
  congr 1; omega
theorem ovr_set (n : Nat) (l : List UInt8) (h : n < l.length) : (ovr n l).set n (l[n] ^^^ 255) = ovr (n + 1) l := by
  unfold ovr
  rw [List.take_succ_eq_append_getElem h, List.map_append, List.set_append_right _ _ (by simp; exact Nat.min_le_left _ _)]
  have : n - ((l.take n).map fun x => x ^^^ 255).length = 0 := by simp; omega
  rw [this, List.drop_eq_getElem_cons h, List.set_cons_zero, List.append_assoc]; rfl
theorem xr (x : UInt8) : bits BinOp.xor .u8 (x.toNat : Int) 255 = ((x ^^^ 255).toNat : Int) := by
  have h : ∀ n : Fin 256, bits BinOp.xor .u8 ((UInt8.ofNat n.val).toNat : Int) 255 = ((UInt8.ofNat n.val ^^^ 255).toNat : Int) := by decide +kernel
  have := h ⟨x.toNat, x.toNat_lt⟩
  simpa using this
def getC (f : List UInt8 → Option (List UInt8)) (s : List UInt8) : Int := match f s with | some _ => 0 | none => 6
def GetPost (w : World) (f : List UInt8 → Option (List UInt8)) (s : List UInt8) (e : Ending) (w' : World) : Prop :=
  ∃ v', e = .returned (.tuple #[v', .int .i64 (getC f s)]) ∧ Below w.heap.size w w' ∧ Ob 5 w.heap.size w' v' ((f s).getD [])
set_option maxRecDepth 100000 in
set_option maxHeartbeats 1000000 in
/-- vault.Get -/
theorem get_any {B b n : Nat} {V : Nat → Prop} {w : World} {f : List UInt8 → Option (List UInt8)} (s : List UInt8) (hI : VaultIs B V w b f n) (hs : s.length ≤ maxLen) :
    Calls Tryz.prog 53 #[.pointer (some ⟨b, 0, none⟩), .string ⟨s.toArray⟩] w (GetPost w f s) := by
  obtain ⟨hB, ⟨h, rfl, hf⟩ | ⟨M, g, hM, h, hm, hf⟩⟩ := hI
  · obtain ⟨c1, c2⟩ := cell_of h
    have hl := Maps.look_nil (w := w) true (Maps.string_keyed Tryz.underlying9) Tryz.underlying63 (zero32 w) (WideMaps.keyOf_string_mk Tryz.underlying9 (s := ⟨s.toArray⟩) hs)
    have HF := Hid.mk' hf
    clear h hf
    go_enter Tryz.func53, Tryz.ntmps53
    go_wp2
    go_ret2
    refine ⟨.slice none 0 0, ?_, Below.refl _ _, ?_⟩
    · rw [show getC f s = 6 by unfold getC; rw [HF.out]]; rfl
    · rw [HF.out]; exact ob_nil
  · obtain ⟨c1, c2⟩ := cell_of h
    have hl := hm.look Tryz.underlying9 Tryz.underlying63 (zero32 w) s hs
    rcases hf s with ⟨hg, hfs⟩ | ⟨v, l, hg, hfs, ho, hln, _⟩
    · rw [hg] at hl
      have HF := Hid.mk' hfs
      clear h hf hm hg hfs
      go_enter Tryz.func53, Tryz.ntmps53
      go_wp2
      go_ret2
      refine ⟨.slice none 0 0, ?_, Below.refl _ _, ?_⟩
      · rw [show getC f s = 6 by unfold getC; rw [HF.out]]; rfl
      · rw [HF.out]; exact ob_nil
    · rw [hg] at hl
      have HF := Hid.mk' hfs
      have HO := Hid.mk' (ho.bs hln)
      clear h hf hm hg hfs ho
      go_enter Tryz.func53, Tryz.ntmps53
      go_wp2_with (go_at_call 55; go_must (refine (clone_any v l _ HO.out).mono ?_; rintro e w1 ⟨v', rfl, hb1, ho1⟩))
      go_ret2
      refine ⟨v', ?_, hb1, ?_⟩
      · rw [show getC f s = 0 by unfold getC; rw [HF.out]]; rfl
      · rw [HF.out]; exact ho1
/-- rows of bytes that are none of the vault's are written -/
theorem VaultIs.wb {B b n : Nat} {V X : Nat → Prop} {w w' : World} {f : List UInt8 → Option (List UInt8)} (h : VaultIs B V w b f n) (hw : Wb X w w') (hX : ∀ k, X k → ¬ V k ∧ ∃ cur fr, w.heap[k]? = some (.cells cur 5 fr)) : VaultIs B V w' b f n := by
  have hnb : ∀ k ob, w.heap[k]? = some ob → (∀ cur fr, ob ≠ Obj.cells cur 5 fr) → w'.heap[k]? = some ob := fun k ob hk hne => by
    rw [hw.block k (Array.getElem?_eq_some_iff.1 hk).1 fun hx => by
      obtain ⟨_, cur, fr, h1⟩ := hX k hx
      rw [hk] at h1
      exact hne cur fr (Option.some.inj h1)]
    exact hk
  obtain ⟨hB, ⟨h, rfl, hf⟩ | ⟨M, g, hM, h, hm, hf⟩⟩ := h
  · exact ⟨hB, .inl ⟨hnb b _ h (fun cur fr e => by cases e), rfl, hf⟩⟩
  · have hM' : w'.heap[M]? = w.heap[M]? := by
      obtain ⟨es, cl, h1⟩ := hm.is
      rw [h1]; exact hnb M _ h1 (fun cur fr e => by cases e)
    refine ⟨hB, .inr ⟨M, g, hM, hnb b _ h (fun cur fr e => by cases e), hm.block hM', fun s => ?_⟩⟩
    rcases hf s with h | ⟨v, l, h1, h2, h3, h4, h5⟩
    · exact .inl h
    · exact .inr ⟨v, l, h1, h2, own_wb h3 hw fun k hk e => (hX k hk).1 (h5 k e.symm), h4, h5⟩
end Go.Proofs.YtojgkjpmphfakaaGreatDoor
set_option linter.unusedVariables false
set_option linter.unusedSimpArgs false
namespace Go.Proofs.YtojgkjpmphfakaaGreatDoor
open Go.RowKit
/-- L are the keys of f, rising -/
def Keys {α : Type} (f : List UInt8 → Option α) (n : Nat) (L : List (List UInt8)) : Prop := L.Pairwise (fun a b => a < b) ∧ (∀ s, s ∈ L ↔ (f s).isSome = true) ∧ L.length = n ∧ ∀ s ∈ L, s.length ≤ maxLen
theorem lt_of_le_ne {a b : List UInt8} (h : a ≤ b) (hn : a ≠ b) : a < b := by
  refine Classical.byContradiction fun h1 => hn (List.le_antisymm h (List.not_lt.1 h1))
theorem rising_of {l : List (List UInt8)} (hn : l.Nodup) : (l.mergeSort leB).Pairwise (fun a b => a < b) := by
  have tr : ∀ a b c : List UInt8, leB a b = true → leB b c = true → leB a c = true := fun a b c h1 h2 => by simp only [leB, decide_eq_true_eq] at *; exact List.le_trans h1 h2
  have tot : ∀ a b : List UInt8, (leB a b || leB b a) = true := fun a b => by simp only [leB, Bool.or_eq_true, decide_eq_true_eq]; exact List.le_total a b
  have h1 := List.pairwise_mergeSort tr tot l
  have h2 : (l.mergeSort leB).Nodup := (List.mergeSort_perm l leB).nodup_iff.2 hn
  refine (h1.and h2).imp fun {a b} h => lt_of_le_ne (by simpa [leB] using h.1) h.2
theorem keys_of {w : World} {M n : Nat} {g : List UInt8 → Option Value} (hm : MapF Tryz.prog 9 w M g n) : ∃ D : DataW Value, w.ownsMap Tryz.prog 9 hR M n D ∧ Maps.size D = n ∧ ∀ ss : List (List UInt8), ss.Perm (strKeys D) → Keys g n (ss.mergeSort leB) := by
  obtain ⟨D, h, hs, hT, hf⟩ := hm
  refine ⟨D, h, hs, fun ss hp => ?_⟩
  have hle := strKeys_le h Tryz.underlying9
  obtain ⟨es, hD, hpw⟩ := hT
  obtain ⟨es', hD', hko⟩ := h.keysOf
  obtain rfl : es = es' := by rw [hD] at hD'; simpa using hD'
  have hk : ∀ p ∈ es, ∃ x, p.1 = .string x := fun p hp => by obtain ⟨v, hv⟩ := hko p hp; obtain ⟨x, _, hx, _⟩ := Maps.keyOf_str Tryz.underlying9 hv; exact ⟨x, hx⟩
  have hnd : (strKeys D).Nodup := by
    subst hD
    show (es.map fun p => Go.strOf p.1).Nodup
    refine List.pairwise_map.2 (hpw.imp_of_mem fun {p q} hp' hq' hne e => hne ?_)
    obtain ⟨a, ha⟩ := hk p hp'
    obtain ⟨b, hb⟩ := hk q hq'
    rw [ha, hb] at e ⊢
    exact congrArg _ e
  have hmem : ∀ x, x ∈ strKeys D ↔ (g x).isSome = true := fun x => by
    rw [← (hf x).1]
    subst hD
    rw [Maps.has_eq, List.any_eq_true]
    show x ∈ (es.map fun p => Go.strOf p.1) ↔ _
    rw [List.mem_map]
    constructor
    · rintro ⟨p, hp', rfl⟩
      obtain ⟨a, ha⟩ := hk p hp'
      exact ⟨p, hp', by rw [ha]; simp [Lit.sameKey, Go.strOf]⟩
    · rintro ⟨p, hp', hs⟩
      obtain ⟨a, ha⟩ := hk p hp'
      rw [ha] at hs
      exact ⟨p, hp', by rw [ha]; simpa [Lit.sameKey, Go.strOf] using hs⟩
  have hps := (List.mergeSort_perm ss leB).trans hp
  refine ⟨rising_of (hp.nodup_iff.2 hnd), fun s => by rw [hps.mem_iff, hmem], ?_, fun s hs => hle s (hps.mem_iff.1 hs)⟩
  rw [hps.length_eq, ← hs, hD]
  show (es.map fun p => Go.strOf p.1).length = _
  simp [Maps.size]
theorem Keys.map {α β : Type} {f : List UInt8 → Option α} {g : List UInt8 → Option β} {n : Nat} {L : List (List UInt8)} (h : Keys f n L) (he : ∀ s, (f s).isSome = (g s).isSome) : Keys g n L := ⟨h.1, fun s => by rw [h.2.1 s, he s], h.2.2⟩
theorem so_of_enc {B : Nat} {w : World} {v : Value} {ss : List (List UInt8)} (h : w.ownsRow B 9 1 v ss.length ((ss.mergeSort leB).map encStr)) : So 9 B w v (ss.mergeSort leB) := by
  unfold So
  rw [List.length_mergeSort]
  exact h
/-- what List answers -/
def ListPost (f : List UInt8 → Option (List UInt8)) (n : Nat) (p : List UInt8) (w : World) (e : Ending) (w' : World) : Prop := ∃ v' L, e = .returned v' ∧ Keys f n L ∧ So 9 w.heap.size w' v' (L.filter (pfx p)) ∧ Below w.heap.size w w'
set_option maxRecDepth 100000 in
set_option maxHeartbeats 2000000 in
/-- vault.List -/
theorem list_any {B b n : Nat} {V : Nat → Prop} {w : World} {f : List UInt8 → Option (List UInt8)} (p : List UInt8) (hI : VaultIs B V w b f n) (hp : p.length ≤ maxLen) (hn : n ≤ 1000000) :
    Calls Tryz.prog 59 #[.pointer (some ⟨b, 0, none⟩), .string ⟨p.toArray⟩] w (ListPost f n p w) := by
  have hmf : ∀ (fn : Fn) (first cap : Array Value) (w : World), (Instr.makeFunc fn first cap).run Tryz.prog w = .ok (.func fn first cap) w := fun _ _ _ _ => rfl
  obtain ⟨hB, ⟨h, rfl, hf⟩ | ⟨M, g, hM, h, hm, hf⟩⟩ := hI
  · obtain ⟨c1, c2⟩ := cell_of h
    have hb : b < w.heap.size := (Array.getElem?_eq_some_iff.1 h).1
    have HF := Hid.mk' hf
    clear h hf
    go_enter Tryz.func59, Tryz.ntmps59
    go_wp2_with fail
    obtain ⟨W, hW⟩ : ∃ W, W = w.alloc (.cells #[.string ⟨p.toArray⟩] 9) := ⟨_, rfl⟩
    have HW : Hid (Below w.heap.size w W) := by rw [hW]; exact up_alloc _ _
    have HZ : Hid (W.heap.size = w.heap.size + 1) := by rw [hW]; simp [Hid]
    have HC : Hid (W.cell? ⟨w.heap.size, 0, none⟩ = some (.string ⟨p.toArray⟩)) := by rw [hW]; simp [Hid]
    rw [← hW]
    clear hW
    refine (callsIn_wide.1 (Tryz.maps_Keys_77 none W)).mono ?_
    rintro e w1 ⟨rfl, rfl⟩
    go_wp2_with fail
    refine (callsIn_wide.1 (Tryz.slices_Sorted_keys_nil_76_77 W)).mono ?_
    rintro e w2 ⟨v, ss, rfl, rfl, hrow, hv, hb2⟩
    have HB2 := Hid.mk' hb2
    have hso : So 9 (W.alloc (.cells #[.map none] 63)).heap.size w2 v [] := by have := so_of_enc hrow; simpa using this
    obtain ⟨va, vc, ev⟩ := hso.slice
    subst ev
    have HX := Hid.mk' (bt HW.out (bt (up_alloc W _) hb2))
    have HD := Hid.mk' (c89 (p := p) hso (by decide) (by simp) hp (by rw [cell_later (bt (up_alloc W _) hb2) HC.out]) (by have := HZ.out; simp; omega))
    clear hrow hv hb2 HB2
    go_wp2_with fail
    refine HD.out.mono ?_
    rintro e w3 ⟨v', rfl, h1, h2⟩
    have H1 := Hid.mk' h1
    have H2 := Hid.mk' h2
    have HS := Hid.mk' hso
    clear h1 h2 HD hso
    go_wp2_with fail
    go_ret
    refine ⟨_, [], rfl, ⟨List.Pairwise.nil, fun s => by simp [HF.out s], rfl, by simp⟩, H1.out.mono (by have := HZ.out; simp; omega), ?_⟩
    exact HX.out.trans (H2.out.below HX.out.size fun k hk => by have := (HS.out.lt k hk).1; have := HZ.out; simp at *; omega)
  · obtain ⟨c1, c2⟩ := cell_of h
    have hb : b < w.heap.size := (Array.getElem?_eq_some_iff.1 h).1
    have HF := Hid.mk' hf
    have HM := Hid.mk' hm
    clear h hf hm
    go_enter Tryz.func59, Tryz.ntmps59
    go_wp2_with fail
    obtain ⟨W, hW⟩ : ∃ W, W = w.alloc (.cells #[.string ⟨p.toArray⟩] 9) := ⟨_, rfl⟩
    have HW : Hid (Below w.heap.size w W) := by rw [hW]; exact up_alloc _ _
    have HZ : Hid (W.heap.size = w.heap.size + 1) := by rw [hW]; simp [Hid]
    have HC : Hid (W.cell? ⟨w.heap.size, 0, none⟩ = some (.string ⟨p.toArray⟩)) := by rw [hW]; simp [Hid]
    rw [← hW]
    clear hW
    obtain ⟨D, hD, hDs, hK⟩ := keys_of (HM.out.block (HW.out.block M HM.out.lt))
    have HK := Hid.mk' hK
    have HS := Hid.mk' (Tryz.slices_Sorted_keys_76_77 M n D hR W hD (by rw [hDs]; unfold maxLen; omega) (by rw [hDs]; omega))
    clear hD hDs hK
    refine (callsIn_wide.1 (Tryz.maps_Keys_77 (some M) W)).mono ?_
    rintro e w1 ⟨rfl, rfl⟩
    go_wp2_with fail
    refine (callsIn_wide.1 HS.out).mono ?_
    rintro e w2 ⟨v, ss, rfl, hS, hrow, hv, hb2⟩
    have HL := HK.out ss hS
    have hso := so_of_enc hrow
    generalize ss.mergeSort leB = L at *
    have HL := Hid.mk' HL
    obtain ⟨va, vc, ev⟩ := hso.slice
    subst ev
    have HX := Hid.mk' (bt HW.out (bt (up_alloc W _) hb2))
    have HD := Hid.mk' (c89 (p := p) hso (by rw [HL.out.2.2.1]; unfold lim; omega) HL.out.2.2.2 hp (by rw [cell_later (bt (up_alloc W _) hb2) HC.out]) (by have := HZ.out; simp; omega))
    have HSo := Hid.mk' hso
    clear hrow hv hb2 HS HK hso hS
    go_wp2_with fail
    refine HD.out.mono ?_
    rintro e w3 ⟨v', rfl, h1, h2⟩
    have H1 := Hid.mk' h1
    have H2 := Hid.mk' h2
    clear h1 h2 HD
    go_wp2_with fail
    go_ret
    refine ⟨_, L, rfl, HL.out.map fun s => ?_, H1.out.mono (by have := HZ.out; simp; omega), ?_⟩
    · rcases HF.out s with ⟨h1, h2⟩ | ⟨x, y, h1, h2, _⟩ <;> rw [h1, h2] <;> rfl
    · exact HX.out.trans (H2.out.below HX.out.size fun k hk => by have := (HSo.out.lt k hk).1; have := HZ.out; simp at *; omega)
/-- what is none of the vault's is written -/
theorem VaultIs.fr {B b n : Nat} {V X : Nat → Prop} {w w' : World} {f : List UInt8 → Option (List UInt8)} (h : VaultIs B V w b f n) (hw : ∀ k, k < w.heap.size → ¬ X k → w'.heap[k]? = w.heap[k]?) (hX : ∀ k, X k → ¬ V k ∧ ∃ cur e fr, w.heap[k]? = some (.cells cur e fr) ∧ e ≠ 65) : VaultIs B V w' b f n := by
  have hnb : ∀ k ob, w.heap[k]? = some ob → (∀ cur e fr, e ≠ 65 → ob ≠ Obj.cells cur e fr) → w'.heap[k]? = some ob := fun k ob hk hne => by
    rw [hw k (Array.getElem?_eq_some_iff.1 hk).1 fun hx => by
      obtain ⟨_, cur, e, fr, h1, h2⟩ := hX k hx
      rw [hk] at h1
      exact hne cur e fr h2 (Option.some.inj h1)]
    exact hk
  obtain ⟨hB, ⟨h, rfl, hf⟩ | ⟨M, g, hM, h, hm, hf⟩⟩ := h
  · exact ⟨hB, .inl ⟨hnb b _ h (fun cur e fr he e' => by cases e'; exact he rfl), rfl, hf⟩⟩
  · have hM' : w'.heap[M]? = w.heap[M]? := by
      obtain ⟨es, cl, h1⟩ := hm.is
      rw [h1]; exact hnb M _ h1 (fun cur e fr he e' => by cases e')
    refine ⟨hB, .inr ⟨M, g, hM, hnb b _ h (fun cur e fr he e' => by cases e'; exact he rfl), hm.block hM', fun s => ?_⟩⟩
    rcases hf s with h | ⟨v, l, h1, h2, h3, h4, h5⟩
    · exact .inl h
    · exact .inr ⟨v, l, h1, h2, own_fr h3 fun k hk => hw k (h3.lt k hk).2 fun hx => (hX k hx).1 (h5 k hk), h4, h5⟩
theorem VaultIs.box {B b n : Nat} {V : Nat → Prop} {w : World} {f : List UInt8 → Option (List UInt8)} (h : VaultIs B V w b f n) : ∃ r, w.heap[b]? = some (.cells #[.map r] 65 (0, 0)) := by
  obtain ⟨_, ⟨h, _⟩ | ⟨M, g, hM, h, _⟩⟩ := h
  · exact ⟨_, h⟩
  · exact ⟨_, h⟩
end Go.Proofs.YtojgkjpmphfakaaGreatDoor
