/- Walks: the vault. -/
import Derived.Test.YtojgkjpmphfakaaGreatDoorP1
import Derived.Test.YtojgkjpmphfakaaGreatDoorGM
set_option linter.unusedVariables false
set_option linter.unusedSimpArgs false
namespace Go.Proofs.YtojgkjpmphfakaaGreatDoor
open Go.RowKit
attribute [local go_sem ↓] Go.wp_at_zero Go.wp_at_succ

theorem equal_any {A A' : Nat → Prop} (v u : Value) (l m : List UInt8) (w : World) (h : Bs A w v l) (h' : Bs A' w u m) :
    Calls Tryz.prog 54 #[v, u] w fun e w' => e = .returned (.bool (l == m)) ∧ w = w' := by
  have h1 := run_str (P := Tryz.prog) 69 9 Tryz.underlying69 Tryz.underlying5 Tryz.underlying9 h
  have h2 := run_str (P := Tryz.prog) 69 9 Tryz.underlying69 Tryz.underlying5 Tryz.underlying9 h'
  clear h h'
  go_enter Tryz.func54, Tryz.ntmps54
  go_wp2
  go_ret
  exact ⟨rfl, rfl⟩

theorem clone_any {A : Nat → Prop} (v : Value) (l : List UInt8) (w : World) (h : Bs A w v l) : Calls Tryz.prog 55 #[v] w (RetOb 5 w l) := by
  have h0 := h
  obtain ⟨a, c, rfl, hc, ha, H⟩ := h0.at
  cases a with
  | none =>
    have hc0 := ha rfl
    have hl : l = [] := List.eq_nil_of_length_eq_zero (by omega)
    subst hc0; subst hl
    refine (clone_nil w).mono ?_
    rintro e w' ⟨rfl, rfl⟩
    exact ⟨_, rfl, Below.refl _ _, ob_nil⟩
  | some p => exact clone_some p _ c l w h

/-- the vault's box at block b, what lies in it -/
def VaultIs (B : Nat) (V : Nat → Prop) (w : World) (b : Nat) (f : List UInt8 → Option (List UInt8)) (n : Nat) : Prop :=
  B ≤ b ∧ ((w.heap[b]? = some (.cells #[.map none] 65 (0, 0)) ∧ n = 0 ∧ ∀ s, f s = none) ∨
    ∃ mb g, B ≤ mb ∧ w.heap[b]? = some (.cells #[.map (some mb)] 65 (0, 0)) ∧ MapF Tryz.prog 9 w mb g n ∧
      ∀ s, (g s = none ∧ f s = none) ∨ ∃ v l, g s = some v ∧ f s = some l ∧ Ob 5 B w v l ∧ l.length ≤ lim ∧ ∀ k, v.ownBlock = some k → V k)
def putF (f : List UInt8 → Option (List UInt8)) (s l : List UInt8) (x : List UInt8) : Option (List UInt8) := if x = s then (match f s with | some o => some o | none => some l) else f x
def putC (f : List UInt8 → Option (List UInt8)) (s l : List UInt8) : Int := match f s with | some o => if o == l then 0 else 7 | none => 0
def putN (f : List UInt8 → Option (List UInt8)) (s : List UInt8) (n : Nat) : Nat := match f s with | some o => n | none => n + 1
def PutPost (B : Nat) (V : Nat → Prop) (w : World) (b : Nat) (f : List UInt8 → Option (List UInt8)) (n : Nat) (s l : List UInt8) (e : Ending) (w' : World) : Prop :=
  e = .returned (.int .i64 (putC f s l)) ∧ Below B w w' ∧ CellsBut b w w' ∧ VaultIs B (fun k => V k ∨ w.heap.size ≤ k) w' b (putF f s l) (putN f s n)
theorem zero32 (w : World) : (zeroValue 69).run Tryz.prog w = .ok (.slice none 0 0) w := by kernel_rfl
/-- behind the clone and the store -/
theorem VaultIs.mono {B b n : Nat} {V V' : Nat → Prop} {w : World} {f : List UInt8 → Option (List UInt8)} (h : VaultIs B V w b f n) (hV : ∀ k, V k → V' k) : VaultIs B V' w b f n := by
  obtain ⟨hB, h | ⟨M, g, hM, h, hm, hf⟩⟩ := h
  · exact ⟨hB, .inl h⟩
  · refine ⟨hB, .inr ⟨M, g, hM, h, hm, fun s => ?_⟩⟩
    rcases hf s with h | ⟨v, l, h1, h2, h3, h4, h5⟩
    · exact .inl h
    · exact .inr ⟨v, l, h1, h2, h3, h4, fun k e => hV k (h5 k e)⟩
theorem put_new {B b M : Nat} {V : Nat → Prop} {W w1 w2 : World} {g : List UInt8 → Option Value} {f : List UInt8 → Option (List UInt8)} {n : Nat} {s l : List UInt8} {v' : Value}
    (hB : B ≤ b) (hM : B ≤ M) (hc : W.heap[b]? = some (.cells #[.map (some M)] 65 (0, 0))) (hm : MapF Tryz.prog 9 W M g n)
    (hf : ∀ s, (g s = none ∧ f s = none) ∨ ∃ v l, g s = some v ∧ f s = some l ∧ Ob 5 B W v l ∧ l.length ≤ lim ∧ ∀ k, v.ownBlock = some k → V k) (hs : f s = none) (hl : l.length ≤ lim)
    (hb1 : Below W.heap.size W w1) (ho1 : Ob 5 W.heap.size w1 v' l) (hm2 : MapF Tryz.prog 9 w2 M (fun x => if x = s then some v' else g x) (if (g s).isSome then n else n + 1)) (hg2 : w1.grownBy w2 (some M)) (hBW : B ≤ W.heap.size) :
    Below B W w2 ∧ CellsBut b W w2 ∧ VaultIs B (fun k => V k ∨ W.heap.size ≤ k) w2 b (putF f s l) (putN f s n) := by
  have hlt : b < W.heap.size := (Array.getElem?_eq_some_iff.1 hc).1
  have hgs : g s = none := by
    rcases hf s with h | ⟨v, l, _, h, _⟩
    · exact h.1
    · rw [hs] at h; cases h
  have hne : b ≠ M := by
    rintro rfl
    obtain ⟨es, cl, h⟩ := hm.is
    rw [hc] at h; cases h
  have hmap1 : ∀ c e fr, w1.heap[M]? ≠ some (.cells c e fr) := by
    intro c e fr h
    rw [hb1.block M hm.lt] at h
    obtain ⟨es, cl, h'⟩ := hm.is
    rw [h'] at h; cases h
  have hk : CellsBut b W w2 := (CellsBut.of_below hb1).trans (CellsBut.of_grown hg2 hmap1)
  have hc1 : w1.heap[b]? = some (.cells #[.map (some M)] 65 (0, 0)) := by rw [hb1.block b hlt]; exact hc
  refine ⟨(hb1.mono hBW).trans (Below.grown (Below.refl _ _) hg2 (Nat.le_trans hBW hb1.size) (fun k hk => by cases hk; exact hM)), hk, hB, .inr ⟨M, (fun x => if x = s then some v' else g x), hM, ?_, ?_, fun x => ?_⟩⟩
  · rw [hg2.block b (Nat.lt_of_lt_of_le hlt hb1.size) (by simpa using hne)]; exact hc1
  · have e : putN f s n = if (g s).isSome then n else n + 1 := by simp [putN, hs, hgs]
    rw [e]; exact hm2
  · by_cases hx : x = s
    · subst hx
      refine .inr ⟨v', l, by simp, by simp [putF, hs], ?_, hl, fun k e => .inr (ho1.lt k e).1⟩
      exact (ho1.mono hBW).but (CellsBut.of_grown hg2 hmap1) hc1 (by decide)
    · simp only [if_neg hx, putF]
      rcases hf x with h | ⟨v, l', h1, h2, h3, h4⟩
      · exact .inl h
      · exact .inr ⟨v, l', h1, h2, h3.but hk hc (by decide), h4.1, fun k e => .inl (h4.2 k e)⟩
set_option maxRecDepth 100000 in
set_option maxHeartbeats 1000000 in
theorem put_none {A V : Nat → Prop} {B b M : Nat} {w : World} {v : Value} {g : List UInt8 → Option Value} {f : List UInt8 → Option (List UInt8)} {n : Nat} (s l : List UInt8) (hB : B ≤ b) (hM : B ≤ M) (hBW : B ≤ w.heap.size)
    (h : w.heap[b]? = some (.cells #[.map (some M)] 65 (0, 0))) (hm : MapF Tryz.prog 9 w M g n)
    (hf : ∀ s, (g s = none ∧ f s = none) ∨ ∃ v l, g s = some v ∧ f s = some l ∧ Ob 5 B w v l ∧ l.length ≤ lim ∧ ∀ k, v.ownBlock = some k → V k) (hfs : f s = none) (hs : s.length ≤ maxLen) (hn : n < maxLen) (hv : Bs A w v l) :
    Calls Tryz.prog 43 #[.pointer (some ⟨b, 0, none⟩), .string ⟨s.toArray⟩, v] w (PutPost B V w b f n s l) := by
  obtain ⟨c1, c2⟩ := cell_of h
  have hb : b < w.heap.size := (Array.getElem?_eq_some_iff.1 h).1
  have hgs : g s = none := by
    rcases hf s with h | ⟨v, l, _, h, _⟩
    · exact h.1
    · rw [hfs] at h; cases h
  have hl := hm.look Tryz.underlying9 Tryz.underlying63 (zero32 w) s hs
  rw [hgs] at hl
  have hne : some (⟨b, 0, none⟩ : Addr).block ≠ some M := by
    intro e; cases e
    obtain ⟨es, cl, h'⟩ := hm.is
    rw [h] at h'; cases h'
  have H := Hid.mk' h
  have HV := Hid.mk' hv
  have HM := Hid.mk' hm
  have HF := Hid.mk' hf
  have HFS := Hid.mk' hfs
  have HN := Hid.mk' hn
  clear h hv hm hf hfs hgs hn
  have hmn := fun w r => run_eql_map_nil (P := Tryz.prog) w 63 9 69 r Tryz.underlying63
  go_enter Tryz.func43, Tryz.ntmps43
  go_wp2
  go_region_held3 (fun w' => w'.cell? ⟨b, 0, none⟩ = some (.map (some M))) (first | exact hg2.cell (a := ⟨b, 0, none⟩) ((hb1.cell (p := ⟨b, 0, none⟩) hb).trans c1) hne | exact (hb1.cell (p := ⟨b, 0, none⟩) hb).trans c1 | go_keep)
    (first | (go_at_call 55; refine (clone_any (A := A) v l _ (by exact HV.out)).mono ?_; rintro e w1 ⟨v', rfl, hb1, ho1⟩; obtain ⟨w2, hr2, hm2, hg2⟩ := (HM.out.block (hb1.block M HM.out.lt)).store Tryz.underlying9 Tryz.underlying63 s hs v' HN.out))
  go_wp2
  go_ret
  obtain ⟨p1, p2, p3⟩ := put_new hB hM H.out HM.out HF.out HFS.out HV.out.2 (bt ((Dn.refl w).drew.below _) hb1) ho1 hm2 hg2 hBW
  exact ⟨by simp [putC, HFS.out], p1, p2, p3⟩
set_option maxRecDepth 100000 in
set_option maxHeartbeats 1000000 in
theorem put_nil {A V : Nat → Prop} {B b : Nat} {w : World} {v : Value} {f : List UInt8 → Option (List UInt8)} (s l : List UInt8) (hB : B ≤ b)
    (h : w.heap[b]? = some (.cells #[.map none] 65 (0, 0))) (hf : ∀ s, f s = none) (hs : s.length ≤ maxLen) (hv : Bs A w v l) :
    Calls Tryz.prog 43 #[.pointer (some ⟨b, 0, none⟩), .string ⟨s.toArray⟩, v] w (PutPost B V w b f 0 s l) := by
  obtain ⟨c1, c2⟩ := cell_of h
  have hb : b < w.heap.size := (Array.getElem?_eq_some_iff.1 h).1
  have hl := Maps.look_nil (w := w) true (Maps.string_keyed Tryz.underlying9) Tryz.underlying63 (zero32 w) (WideMaps.keyOf_string_mk Tryz.underlying9 (s := ⟨s.toArray⟩) hs)
  have hk0 : CellsBut b w (w.setCell ⟨b, 0, none⟩ (.map (some w.heap.size))) := CellsBut.setCell _
  have HWb : Hid (((w.setCell ⟨b, 0, none⟩ (.map (some w.heap.size))).alloc (.map #[] 0)).heap[b]? = some (.cells #[.map (some w.heap.size)] 65 (0, 0))) := by
    show _ = _
    rw [Below.heap_alloc _ _ _ (by rw [size_setCell]; exact hb)]; exact box_set h _
  have HWm : Hid (MapF Tryz.prog 9 ((w.setCell ⟨b, 0, none⟩ (.map (some w.heap.size))).alloc (.map #[] 0)) w.heap.size (fun _ => none) 0) := by
    have := MapF.made Tryz.prog 9 (w.setCell ⟨b, 0, none⟩ (.map (some w.heap.size)))
    rw [size_setCell] at this; exact this
  have HWv : Hid (Bs A ((w.setCell ⟨b, 0, none⟩ (.map (some w.heap.size))).alloc (.map #[] 0)) v l) := (hv.but hk0 h).up (up_alloc _ _)
  have HW : Hid (Below B w ((w.setCell ⟨b, 0, none⟩ (.map (some w.heap.size))).alloc (.map #[] 0)) ∧ CellsBut b w ((w.setCell ⟨b, 0, none⟩ (.map (some w.heap.size))).alloc (.map #[] 0))) :=
    ⟨((Below.refl _ _).setCell (p := ⟨b, 0, none⟩) hB _).alloc (by rw [size_setCell]; omega) _, hk0.trans (CellsBut.of_below (up_alloc _ _))⟩
  have hne : some (⟨b, 0, none⟩ : Addr).block ≠ some w.heap.size := by simp; omega
  have HL := Hid.mk' hv.2
  have HF := Hid.mk' hf
  clear h hv hk0 hf
  have hmm := @run_makeMap Tryz.prog
  have hmn := fun w r => run_eql_map_nil (P := Tryz.prog) w 63 9 69 r Tryz.underlying63
  go_enter Tryz.func43, Tryz.ntmps43
  go_wp2
  obtain ⟨W, hW⟩ : ∃ W, W = (w.setCell ⟨b, 0, none⟩ (.map (some w.heap.size))).alloc (.map #[] 0) := ⟨_, rfl⟩
  rw [← hW] at HWb HWm HWv HW ⊢
  have hWc := (cell_of HWb.out).1
  have hbW : b < W.heap.size := (Array.getElem?_eq_some_iff.1 HWb.out).1
  clear hW
  go_region_held3 (fun w' => w'.cell? ⟨b, 0, none⟩ = some (.map (some w.heap.size))) (first | exact hg2.cell (a := ⟨b, 0, none⟩) ((hb1.cell (p := ⟨b, 0, none⟩) hbW).trans hWc) hne | exact (hb1.cell (p := ⟨b, 0, none⟩) hbW).trans hWc | go_keep)
    (first | (go_at_call 55; refine (clone_any (A := A) v l _ (by exact HWv.out)).mono ?_; rintro e w1 ⟨v', rfl, hb1, ho1⟩; obtain ⟨w2, hr2, hm2, hg2⟩ := (HWm.out.block (hb1.block _ HWm.out.lt)).store Tryz.underlying9 Tryz.underlying63 s hs v' (by decide)))
  go_wp2
  go_ret
  obtain ⟨p1, p2, p3⟩ := put_new hB (by omega) HWb.out HWm.out (fun s => .inl ⟨rfl, HF.out s⟩) (HF.out s) HL.out (bt ((Dn.refl W).drew.below _) hb1) ho1 hm2 hg2 (by omega)
  exact ⟨by simp [putC, HF.out s], HW.out.1.trans p1, HW.out.2.trans p2, p3.mono fun k hk => hk.imp id fun h => Nat.le_trans HW.out.1.size h⟩
set_option maxRecDepth 100000 in
set_option maxHeartbeats 1000000 in
theorem put_there {A V : Nat → Prop} {B b M : Nat} {w : World} {v : Value} {g : List UInt8 → Option Value} {f : List UInt8 → Option (List UInt8)} {n : Nat} (s l o : List UInt8) (hB : B ≤ b) (hM : B ≤ M)
    (h : w.heap[b]? = some (.cells #[.map (some M)] 65 (0, 0))) (hm : MapF Tryz.prog 9 w M g n)
    (hf : ∀ s, (g s = none ∧ f s = none) ∨ ∃ v l, g s = some v ∧ f s = some l ∧ Ob 5 B w v l ∧ l.length ≤ lim ∧ ∀ k, v.ownBlock = some k → V k) (hfs : f s = some o) (hs : s.length ≤ maxLen) (hv : Bs A w v l) :
    Calls Tryz.prog 43 #[.pointer (some ⟨b, 0, none⟩), .string ⟨s.toArray⟩, v] w (PutPost B V w b f n s l) := by
  obtain ⟨c1, c2⟩ := cell_of h
  obtain ⟨u, hgs, hu⟩ : ∃ u, g s = some u ∧ Bs (Lt w.heap.size) w u o := by
    rcases hf s with h | ⟨v, l, h1, h2, h3, h4⟩
    · rw [h.2] at hfs; cases hfs
    · rw [hfs] at h2; cases h2; exact ⟨v, h1, h3.bs h4.1⟩
  have hl := hm.look Tryz.underlying9 Tryz.underlying63 (zero32 w) s hs
  rw [hgs] at hl
  have HP : Hid (VaultIs B (fun k => V k ∨ w.heap.size ≤ k) w b (putF f s l) (putN f s n)) := by
    refine ⟨hB, .inr ⟨M, g, hM, h, ?_, fun x => ?_⟩⟩
    · simp [putN, hfs]; exact hm
    · have : putF f s l x = f x := by
        unfold putF; split
        · rename_i e; subst e; rw [hfs]
        · rfl
      rw [this]
      rcases hf x with h | ⟨v, l, h1, h2, h3, h4, h5⟩
      · exact .inl h
      · exact .inr ⟨v, l, h1, h2, h3, h4, fun k e => .inl (h5 k e)⟩
  have HV := Hid.mk' hv
  have HU := Hid.mk' hu
  have HC : Hid (putC f s l = if o == l then 0 else 7) := by show _ = _; unfold putC; rw [hfs]
  clear h hv hm hf hfs hgs hu
  cases he : (o == l)
  · have HE := Hid.mk' he
    clear he
    go_enter Tryz.func43, Tryz.ntmps43
    go_wp2_with (go_at_call 54; go_must (refine (equal_any _ _ o l _ HU.out HV.out).mono ?_; rintro e w1 ⟨rfl, rfl⟩; rw [HE.out]))
    go_ret
    exact ⟨by rw [HC.out, HE.out]; rfl, Below.refl _ _, CellsBut.refl _ _, HP.out⟩
  · have HE := Hid.mk' he
    clear he
    go_enter Tryz.func43, Tryz.ntmps43
    go_wp2_with (go_at_call 54; go_must (refine (equal_any _ _ o l _ HU.out HV.out).mono ?_; rintro e w1 ⟨rfl, rfl⟩; rw [HE.out]))
    go_ret
    exact ⟨by rw [HC.out, HE.out]; rfl, Below.refl _ _, CellsBut.refl _ _, HP.out⟩
/-- vault.Put -/
theorem put_any {A V : Nat → Prop} {B b : Nat} {w : World} {v : Value} {f : List UInt8 → Option (List UInt8)} {n : Nat} (s l : List UInt8) (hI : VaultIs B V w b f n) (hs : s.length ≤ maxLen) (hn : n < maxLen) (hv : Bs A w v l) :
    Calls Tryz.prog 43 #[.pointer (some ⟨b, 0, none⟩), .string ⟨s.toArray⟩, v] w (PutPost B V w b f n s l) := by
  obtain ⟨hB, ⟨h, rfl, hf⟩ | ⟨M, g, hM, h, hm, hf⟩⟩ := hI
  · exact put_nil s l hB h hf hs hv
  · cases hfs : f s with
    | none => exact put_none s l hB hM (by have := hm.lt; omega) h hm hf hfs hs hn hv
    | some o => exact put_there s l o hB hM h hm hf hfs hs hv
/-- vault.New -/
theorem new_any (w : World) : Calls Tryz.prog 7 #[] w fun e w' => e = .returned (.pointer (some ⟨w.heap.size, 0, none⟩)) ∧ w' = w.alloc (.cells #[.map none] 65) := by
  go_enter Tryz.func7, Tryz.ntmps7
  go_wp2
  go_ret
  exact ⟨rfl, rfl⟩
end Go.Proofs.YtojgkjpmphfakaaGreatDoor
