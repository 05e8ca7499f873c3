/- A pool is opened. Pools in plain words: pages of a file, what a queue makes, what a drive keeps safe. What a pool is, in plain words: Gfl, Iv. Evictions and cleanings keep a pool what it is. What Put, Get and the rest leave, in plain words. -/
import Derived.Test.YtbmhkdcmepfmbaaGreatB16
set_option linter.unusedVariables false
set_option linter.unusedSimpArgs false
namespace Go.Proofs.YtbmhkdcmepfmbaaGreat
open Go.RowKit
attribute [local go_sem ↓] Go.wp_at_zero Go.wp_at_succ
def newW (w : World) (b : Nat) (hd : Int) : World := (((w.alloc (.map #[] 0)).alloc (.map #[] 0)).alloc (.map #[] 0)).alloc (.cells (pCells b w.heap.size (w.heap.size + 1) (w.heap.size + 2) (s00 hd)) 67)
theorem newW_pi (w : World) (b : Nat) (hd : Int) : Below w.heap.size w (newW w b hd) ∧ Pi (fun k => w.heap.size ≤ k ∧ k < (newW w b hd).heap.size) (fun _ => False) (newW w b hd) (w.heap.size + 3) b (s00 hd) w.heap.size (w.heap.size + 1) (w.heap.size + 2) (fun _ => none) 0 (fun _ => 0) := by
  obtain ⟨W1, h1⟩ : ∃ W1, W1 = w.alloc (.map #[] 0) := ⟨_, rfl⟩
  obtain ⟨W2, h2⟩ : ∃ W2, W2 = W1.alloc (.map #[] 0) := ⟨_, rfl⟩
  obtain ⟨W3, h3⟩ : ∃ W3, W3 = W2.alloc (.map #[] 0) := ⟨_, rfl⟩
  obtain ⟨W4, h4⟩ : ∃ W4, W4 = W3.alloc (.cells (pCells b w.heap.size (w.heap.size + 1) (w.heap.size + 2) (s00 hd)) 67) := ⟨_, rfl⟩
  have e : newW w b hd = W4 := by rw [h4, h3, h2, h1]; rfl
  have z1 : W1.heap.size = w.heap.size + 1 := by rw [h1]; simp
  have z2 : W2.heap.size = w.heap.size + 2 := by rw [h2]; simp [z1]
  have z3 : W3.heap.size = w.heap.size + 3 := by rw [h3]; simp [z2]
  have z4 : W4.heap.size = w.heap.size + 4 := by rw [h4]; simp [z3]
  have b1 : Below w.heap.size w W1 := by rw [h1]; exact up_alloc _ _
  have b2 : Below W1.heap.size W1 W2 := by rw [h2]; exact up_alloc _ _
  have b3 : Below W2.heap.size W2 W3 := by rw [h3]; exact up_alloc _ _
  have b4 : Below W3.heap.size W3 W4 := by rw [h4]; exact up_alloc _ _
  have hup : ∀ {m n : Nat} {f : Int → Option Value} {A B : World}, MapI Tryz.prog 3 A m f n → Below A.heap.size A B → MapI Tryz.prog 3 B m f n := fun hm hb => hm.block (hb.block _ hm.lt)
  have m1 : MapI Tryz.prog 3 W1 w.heap.size (fun _ => none) 0 := by rw [h1]; exact MapI.made _ _ _
  have m2 : MapI Tryz.prog 3 W2 (w.heap.size + 1) (fun _ => none) 0 := by have := MapI.made Tryz.prog 3 W1; rw [z1, ← h2] at this; exact this
  have m3 : MapI Tryz.prog 3 W3 (w.heap.size + 2) (fun _ => none) 0 := by have := MapI.made Tryz.prog 3 W2; rw [z2, ← h3] at this; exact this
  rw [e]
  refine ⟨bt (bt (bt b1 b2) b3) b4, ?_⟩
  exact { bx := by
            have := heap_alloc_new W3 (.cells (pCells b w.heap.size (w.heap.size + 1) (w.heap.size + 2) (s00 hd)) 67)
            rw [z3, ← h4] at this
            exact this
          sS := List.Pairwise.nil
          sH := List.Pairwise.nil
          mS := hup (hup (hup m1 b2) b3) b4
          mF := hup (hup m2 b3) b4
          mH := hup m3 b4
          cF := fun i => rfl
          fr := fun i f hf => by cases hf
          inj := fun i j hi => by cases hi
          tp := ⟨by omega, by omega⟩
          tS := ⟨⟨by omega, by omega⟩, by omega⟩
          tF := ⟨⟨by omega, by omega⟩, by omega⟩
          tH := ⟨⟨by omega, by omega⟩, by omega⟩
          ne := ⟨by omega, by omega, by omega⟩
          hT := fun k hk => hk.2
          hD := fun k hk => hk.elim }
theorem newW_jx [Xcl] {M Dd : Nat → Prop} {w : World} {b : Nat} {d : Dm} (h : DrIs M Dd w b d) (hX : Xo (fun _ => False) Dd w.heap.size) (hd : Int) : Jx (fun k => w.heap.size ≤ k ∧ k < (newW w b hd).heap.size) (fun _ => False) M Dd (newW w b hd) (w.heap.size + 3) b (s00 hd) d w.heap.size (w.heap.size + 1) (w.heap.size + 2) (fun _ => none) 0 (fun _ => 0) :=
  { P := (newW_pi w b hd).2
    Dr := h.below (newW_pi w b hd).1
    nf := Nat.zero_le _
    dm := fun k hk => hk.elim
    dd := fun k hk ht => by have := (h.hD k hk).1; omega
    xo := hX.up (newW_pi w b hd).1.size
    tm := fun k hk => ⟨fun hm => by have := (h.hM k hm).1; omega, fun e => by have := h.blt; omega⟩ }
theorem s0k_nil (hd : Int) : s0k hd [] = s00 hd := rfl
/-- what Open finds: what was saved last -/
def OpIs (d : Dm) (S : Al Int) (note : By) : Prop :=
  (fget d.seen nmM = none ∧ S = [] ∧ note = []) ∨ (fget d.seen nmM = some (metaB S note) ∧ Sbd S ∧ ASrt S ∧ S.length ≤ 1000 ∧ note.length ≤ 100000 ∧ ∀ x ∈ S, (x.2 + 1) * 512 ≤ ((foz d.seen nmP).length : Int))
theorem px_bel {w w2 w3 : World} {B : Nat} (h : Below B w w2) (hw : Wb (fun k => k = w.heap.size ∨ k = w.heap.size + 1) w2 w3) (h0 : Below w.heap.size w w2) (hB : B ≤ w.heap.size := by exact Nat.le_refl _) : Below B w w3 := by
  refine h.trans (hw.below (Nat.le_trans hB h0.size) fun k hk => by omega)
theorem metaB_len {S : Al Int} {note : By} (hS : Sbd S) (hl : S.length ≤ 1000) (hnl : note.length ≤ 100000) : (metaB S note).length ≤ lim := by
  have HTL := tabB_len S hS
  have htl : (tabB S).length ≤ 18000 := by omega
  have hjl : (jn [tabB S, note]).length ≤ 119009 := by
    have h3 := nm_len (n := (tabB S).length) (by omega)
    have h4 := nm_len (n := note.length) (by omega)
    have h5 := nm_len (n := 2) (by omega)
    show (nm 2 ++ txt [tabB S, note]).length ≤ _
    simp only [txt, List.map_cons, List.map_nil, List.flatten_cons, List.flatten_nil, List.length_append, List.append_nil]
    omega
  have := wrp_len _ (jn [tabB S, note]) (Nat.le_refl _)
  unfold metaB lim
  omega
def OpP [Xcl] (M Dd : Nat → Prop) (w : World) (b : Nat) (hd : Int) (d : Dm) (S : Al Int) (note : By) (e : Ending) (w' : World) : Prop :=
  ∃ (p c : Nat) (v : Value) (T : Nat → Prop) (ms mf ma : Nat) (ff : Int → Option Value) (nf : Nat) (g : Int → Nat), e = .returned (.tuple #[.pointer (some ⟨p, 0, none⟩), v, .int .i64 0]) ∧
    Jx T (fun _ => False) M Dd w' p b (s0k hd S) d ms mf ma ff nf g ∧ Below w.heap.size w w' ∧ (∀ k, T k → w.heap.size ≤ k ∧ k < c) ∧ w.heap.size ≤ c ∧ Ob 5 c w' v note
set_option maxRecDepth 100000 in
set_option maxHeartbeats 4000000 in
theorem popen_any [Xcl] {M Dd : Nat → Prop} {w : World} {b : Nat} {d : Dm} (h : DrIs M Dd w b d) (hX : Xo (fun _ => False) Dd w.heap.size) (hand hd : Int) (hhd : hd = max 1 hand) (hdd : d.dead = false) (htt : tot d.seen ≤ 100000000) {S : Al Int} {note : By} (hS : OpIs d S note) :
    Calls Tryz.prog 9 #[.pointer (some ⟨b, 0, none⟩), .string ⟨pfx_.toArray⟩, .int .i64 hand] w (OpP M Dd w b hd d S note) := by
  have HW : Hid (newW w b hd = newW w b hd) := rfl
  obtain ⟨W, hW⟩ : ∃ W, W = newW w b hd := ⟨_, rfl⟩
  have hpi := newW_pi w b hd
  have hjx := newW_jx h hX hd
  rw [← hW] at hpi hjx
  have hbw := hpi.1
  have hcs := hjx.P.cells
  have HME := Hid.mk' (meta_any hcs.1.1 hcs.1.2.1)
  have HRD : Hid (∀ W', Below W.heap.size W W' → Calls Tryz.prog 29 #[.pointer (some ⟨b, 0, none⟩), .string ⟨nmM.toArray⟩] W' (ReadPost W' d nmM)) := fun W' hb => read_any nmM ((h.below hbw).below hb) (by decide)
  have HJ := Hid.mk' hjx
  have HB := Hid.mk' hbw
  have HWE := Hid.mk' hW
  have HTT := Hid.mk' htt
  have HDD := Hid.mk' hdd
  have HS := Hid.mk' hS
  have HBL := Hid.mk' h.blt
  clear h hdd htt hS hpi hjx hbw hcs hW
  have hmm := @run_makeMap Tryz.prog
  rcases Int.le_total 1 hand with h1 | h1
  · have hd_eq : hd = hand := by rw [hhd]; omega
    clear hhd
    have hmx : max 1 hand = hand := by omega
    have HWE2 : W = ((((w.alloc (Obj.map #[] 0)).alloc (Obj.map #[] 0)).alloc (Obj.map #[] 0)).alloc (Obj.cells #[Value.pointer (some { block := b, off := 0 }), Value.string { data := List.toArray pfx_ }, Value.int IntKind.i64 hand, Value.map (some w.heap.size), Value.map (some (w.heap.size + 1)), Value.map (some (w.heap.size + 1 + 1)), Value.int IntKind.i64 0, Value.int IntKind.i64 0, Value.int IntKind.i64 0, Value.int IntKind.i64 0] 67)) := by rw [HWE.out]; subst hd_eq; rfl
    have HWEE := Hid.mk' HWE2
    clear HWE2
    go_enter Tryz.func9, Tryz.ntmps9
    go_wp2_with fail
    rw [← HWEE.out]
    clear hmx
    refine HME.out.mono ?_
    rintro e w1 ⟨rfl, hb1⟩
    have HB1 := Hid.mk' (bt HB.out hb1)
    have HJ1 := Hid.mk' (HJ.out.up hb1)
    have HRD1 := Hid.mk' (HRD.out w1 hb1)
    have HSW : Hid (W.heap.size ≤ w1.heap.size) := hb1.size
    clear hb1 HME HRD HWEE
    go_wp2_with fail
    refine HRD1.out.mono ?_
    rintro e w2 ⟨v2, he, hb2, ho2⟩
    obtain ⟨x2, y2, e2⟩ := own_sliceN ho2
    have HB2 := Hid.mk' (bt HB1.out hb2)
    have HS2 : Hid (W.heap.size ≤ w2.heap.size) := Nat.le_trans HSW.out hb2.size
    have HJ2 := Hid.mk' (HJ1.out.up hb2)
    clear hb2 HRD1 HJ1
    rcases HS.out with ⟨hn1, hn2, hn3⟩ | ⟨hs1, hs2, hs3, hs4, hs5, hs6⟩
    · have hr : rdE d nmM = 6 := by unfold rdE thE; rw [HDD.out, hn1]; rfl
      rw [hr] at he
      subst he
      have HN2 := Hid.mk' hn2
      have HN3 := Hid.mk' hn3
      subst e2
      clear hn1 hn2 hn3 hr ho2 HS
      go_wp2_with fail
      rw [HN2.out, HN3.out]
      refine bodyPost_ret (v := .tuple #[.pointer (some ⟨w.heap.size + 1 + 1 + 1, 0, none⟩), .slice none 0 0, .int .i64 0]) ?_ rfl ?_
      · simp [results, Tryz.results9, go_sem]
      exact ⟨w.heap.size + 3, W.heap.size, _, _, _, _, _, _, _, _, rfl, HJ2.out, HB2.out, fun k hk => hk, HB.out.size, ob_nil⟩
    · have hr : rdE d nmM = 0 := by unfold rdE thE; rw [HDD.out, hs1]; rfl
      have hrb : rdB d nmM = metaB S note := by unfold rdB foz; rw [HDD.out, hs1]; rfl
      rw [hr] at he
      rw [hrb] at ho2
      subst he
      have HLD := Hid.mk' (load_any HJ2.out rfl (ho2.bs (metaB_len hs2 hs4 hs5)) hs2 hs3 hs4 hs5 HDD.out HTT.out hs6)
      subst e2
      clear ho2 hr hrb hs1 hs2 hs3 hs4 hs5 hs6 HS HJ2
      go_wp2_with fail
      refine HLD.out.mono ?_
      rintro e w3 ⟨v3, ff', nf', rfl, hj3, ho3, hb3⟩
      have HJ3 := Hid.mk' hj3
      have HO3 := Hid.mk' ho3
      have HB3 := Hid.mk' hb3
      clear hj3 ho3 hb3 HLD
      go_wp2_with fail
      refine bodyPost_ret (v := .tuple #[.pointer (some ⟨w.heap.size + 1 + 1 + 1, 0, none⟩), v3, .int .i64 0]) ?_ rfl ?_
      · simp [results, Tryz.results9, go_sem]
      exact ⟨w.heap.size + 3, w2.heap.size, v3, _, _, _, _, _, _, _, rfl, HJ3.out, px_bel HB2.out HB3.out HB2.out, fun k hk => ⟨hk.1, Nat.lt_of_lt_of_le hk.2 HS2.out⟩, HB2.out.size, HO3.out⟩
  · have hd_eq : hd = 1 := by rw [hhd]; omega
    clear hhd
    have hmx : max 1 hand = 1 := by omega
    have HWE2 : W = ((((w.alloc (Obj.map #[] 0)).alloc (Obj.map #[] 0)).alloc (Obj.map #[] 0)).alloc (Obj.cells #[Value.pointer (some { block := b, off := 0 }), Value.string { data := List.toArray pfx_ }, Value.int IntKind.i64 1, Value.map (some w.heap.size), Value.map (some (w.heap.size + 1)), Value.map (some (w.heap.size + 1 + 1)), Value.int IntKind.i64 0, Value.int IntKind.i64 0, Value.int IntKind.i64 0, Value.int IntKind.i64 0] 67)) := by rw [HWE.out]; subst hd_eq; rfl
    have HWEE := Hid.mk' HWE2
    clear HWE2
    go_enter Tryz.func9, Tryz.ntmps9
    go_wp2_with fail
    rw [← HWEE.out]
    clear hmx
    refine HME.out.mono ?_
    rintro e w1 ⟨rfl, hb1⟩
    have HB1 := Hid.mk' (bt HB.out hb1)
    have HJ1 := Hid.mk' (HJ.out.up hb1)
    have HRD1 := Hid.mk' (HRD.out w1 hb1)
    have HSW : Hid (W.heap.size ≤ w1.heap.size) := hb1.size
    clear hb1 HME HRD HWEE
    go_wp2_with fail
    refine HRD1.out.mono ?_
    rintro e w2 ⟨v2, he, hb2, ho2⟩
    obtain ⟨x2, y2, e2⟩ := own_sliceN ho2
    have HB2 := Hid.mk' (bt HB1.out hb2)
    have HS2 : Hid (W.heap.size ≤ w2.heap.size) := Nat.le_trans HSW.out hb2.size
    have HJ2 := Hid.mk' (HJ1.out.up hb2)
    clear hb2 HRD1 HJ1
    rcases HS.out with ⟨hn1, hn2, hn3⟩ | ⟨hs1, hs2, hs3, hs4, hs5, hs6⟩
    · have hr : rdE d nmM = 6 := by unfold rdE thE; rw [HDD.out, hn1]; rfl
      rw [hr] at he
      subst he
      have HN2 := Hid.mk' hn2
      have HN3 := Hid.mk' hn3
      subst e2
      clear hn1 hn2 hn3 hr ho2 HS
      go_wp2_with fail
      rw [HN2.out, HN3.out]
      refine bodyPost_ret (v := .tuple #[.pointer (some ⟨w.heap.size + 1 + 1 + 1, 0, none⟩), .slice none 0 0, .int .i64 0]) ?_ rfl ?_
      · simp [results, Tryz.results9, go_sem]
      exact ⟨w.heap.size + 3, W.heap.size, _, _, _, _, _, _, _, _, rfl, HJ2.out, HB2.out, fun k hk => hk, HB.out.size, ob_nil⟩
    · have hr : rdE d nmM = 0 := by unfold rdE thE; rw [HDD.out, hs1]; rfl
      have hrb : rdB d nmM = metaB S note := by unfold rdB foz; rw [HDD.out, hs1]; rfl
      rw [hr] at he
      rw [hrb] at ho2
      subst he
      have HLD := Hid.mk' (load_any HJ2.out rfl (ho2.bs (metaB_len hs2 hs4 hs5)) hs2 hs3 hs4 hs5 HDD.out HTT.out hs6)
      subst e2
      clear ho2 hr hrb hs1 hs2 hs3 hs4 hs5 hs6 HS HJ2
      go_wp2_with fail
      refine HLD.out.mono ?_
      rintro e w3 ⟨v3, ff', nf', rfl, hj3, ho3, hb3⟩
      have HJ3 := Hid.mk' hj3
      have HO3 := Hid.mk' ho3
      have HB3 := Hid.mk' hb3
      clear hj3 ho3 hb3 HLD
      go_wp2_with fail
      refine bodyPost_ret (v := .tuple #[.pointer (some ⟨w.heap.size + 1 + 1 + 1, 0, none⟩), v3, .int .i64 0]) ?_ rfl ?_
      · simp [results, Tryz.results9, go_sem]
      exact ⟨w.heap.size + 3, w2.heap.size, v3, _, _, _, _, _, _, _, rfl, HJ3.out, px_bel HB2.out HB3.out HB2.out, fun k hk => ⟨hk.1, Nat.lt_of_lt_of_le hk.2 HS2.out⟩, HB2.out.size, HO3.out⟩
end Go.Proofs.YtbmhkdcmepfmbaaGreat
set_option linter.unusedVariables false
set_option linter.unusedSimpArgs false
namespace Go.Proofs.YtbmhkdcmepfmbaaGreat
open Go.RowKit
/-! files -/
theorem wrt_get (o : By) (i : Nat) (x : By) (hi : i ≤ o.length) (j : Nat) : (wrt o i x)[j]? = if i ≤ j ∧ j < i + x.length then x[j - i]? else o[j]? := by
  have hb : ∀ b : By, b = o ++ List.replicate (max o.length (i + x.length) - o.length) 0 → (b.take i ++ x ++ b.drop (i + x.length))[j]? = if i ≤ j ∧ j < i + x.length then x[j - i]? else o[j]? := by
    intro b hb
    have hl : b.length = max o.length (i + x.length) := by rw [hb, List.length_append, List.length_replicate]; omega
    have ht : (b.take i).length = i := by rw [List.length_take]; omega
    by_cases h1 : j < i
    · rw [if_neg (by omega), List.append_assoc, List.getElem?_append_left (by omega), List.getElem?_take, if_pos h1, hb, List.getElem?_append_left (by omega)]
    · by_cases h2 : j < i + x.length
      · rw [if_pos ⟨by omega, h2⟩, List.append_assoc, List.getElem?_append_right (by omega), ht, List.getElem?_append_left (by omega)]
      · rw [if_neg (by omega), List.getElem?_append_right (by rw [List.length_append, ht]; omega), List.length_append, ht, List.getElem?_drop, show i + x.length + (j - (i + x.length)) = j by omega, hb]
        by_cases h3 : j < o.length
        · rw [List.getElem?_append_left h3]
        · rw [List.getElem?_append_right (by omega), List.getElem?_replicate, if_neg (by omega), List.getElem?_eq_none (by omega)]
  exact hb _ rfl
def pgAt (o : By) (m : Nat) : By := (o.drop (m * 512)).take 512
theorem pg_get (o : By) (m j : Nat) : (pgAt o m)[j]? = if j < 512 then o[m * 512 + j]? else none := by
  unfold pgAt
  rw [List.getElem?_take, List.getElem?_drop]
theorem pg_other {o x : By} {n m : Nat} (hn : n * 512 ≤ o.length) (hx : x.length ≤ 512) (hm : m ≠ n) : pgAt (wrt o (n * 512) x) m = pgAt o m := by
  apply List.ext_getElem?
  intro j
  rw [pg_get, pg_get]
  split
  · rename_i hj
    rw [wrt_get _ _ _ hn, if_neg (by omega)]
  · rfl
theorem pg_same {o x : By} {n : Nat} (hn : n * 512 ≤ o.length) (hx : x.length = 512) : pgAt (wrt o (n * 512) x) n = x := by
  apply List.ext_getElem?
  intro j
  rw [pg_get]
  split
  · rename_i hj
    rw [wrt_get _ _ _ hn, if_pos (by omega), show n * 512 + j - n * 512 = j by omega]
  · rw [List.getElem?_eq_none (by omega)]
theorem pg_len {o : By} {m : Nat} (h : (m + 1) * 512 ≤ o.length) : (pgAt o m).length = 512 := by
  unfold pgAt; rw [List.length_take, List.length_drop]; omega
theorem dsk_pg (F : Fl) (n : Nat) : dsk F (n : Int) = pgAt (foz F nmP) n := by unfold dsk; rw [if_pos (by omega), Int.toNat_natCast]; rfl
theorem dsk_neg (F : Fl) {sl : Int} (h : sl < 0) : dsk F sl = zer := by unfold dsk; rw [if_neg (by omega)]
theorem dsk_eq {F F' : Fl} (h : foz F nmP = foz F' nmP) (sl : Int) : dsk F sl = dsk F' sl := by unfold dsk; rw [h]
/-! queues -/
theorem units_app (Q : List Dd) (x : Dd) : units (Q ++ [x]) = units Q + x.units := by simp [units]
theorem after_app {F : Fl} {Q : List Dd} {x : Dd} {k : Nat} (h : k ≤ units Q) : after F (Q ++ [x]) k = after F Q k := by
  induction Q generalizing F k with
  | nil =>
    have : k = 0 := by simpa [units] using h
    subst this
    rw [List.nil_append, after_zero, after_zero]
  | cons y r ih =>
    have hu : units (y :: r) = y.units + units r := by simp [units]
    rw [List.cons_append, after, after]
    split
    · rfl
    · exact ih (by omega)
theorem after_app2 {F : Fl} {Q : List Dd} {x : Dd} {k : Nat} (h : units Q < k) : after F (Q ++ [x]) k = ddo (after F Q (units Q)) x (min (k - units Q) x.units) := by
  induction Q generalizing F k with
  | nil =>
    have hp := x.pos
    have h0 : units ([] : List Dd) = 0 := rfl
    rw [h0] at h ⊢
    have e : after F ([x] : List Dd) k = if min k x.units = 0 then F else after (ddo F x (min k x.units)) [] (k - min k x.units) := rfl
    rw [List.nil_append, e, if_neg (by omega)]; rfl
  | cons y r ih =>
    have hu : units (y :: r) = y.units + units r := by simp [units]
    have hp := y.pos
    rw [List.cons_append, after, after, if_neg (by omega), if_neg (by omega), show min k y.units = y.units by omega, show min (units (y :: r)) y.units = y.units by omega, ih (by omega), show units (y :: r) - y.units = units r by omega, show k - y.units - units r = k - units (y :: r) by omega]
theorem qok_app {F : Fl} {Q : List Dd} {x : Dd} (h : Qok F Q) (hx : Dok (after F Q (units Q)) x) : Qok F (Q ++ [x]) := by
  induction Q generalizing F with
  | nil => exact ⟨hx, trivial⟩
  | cons y r ih =>
    have hu : units (y :: r) = y.units + units r := by simp [units]
    have hp := y.pos
    refine ⟨h.1, ih h.2 ?_⟩
    rw [after, if_neg (by omega), show min (units (y :: r)) y.units = y.units by omega, show units (y :: r) - y.units = units r by omega] at hx
    exact hx
/-- the drive's queue, and whatever stays of it -/
structure Dqu (G : Fl → Prop) (d : Dm) : Prop where
  al : ∀ k, G (after d.safe d.queue k)
  sn : d.seen = after d.safe d.queue (units d.queue)
  qo : Qok d.safe d.queue
  un : units d.queue ≤ 1000000 * d.queue.length
theorem Dqu.seen {G : Fl → Prop} {d : Dm} (h : Dqu G d) : G d.seen := by rw [h.sn]; exact h.al _
theorem Dqu.mono {G G' : Fl → Prop} {d : Dm} (h : Dqu G d) (hG : ∀ F, G F → G' F) : Dqu G' d := { h with al := fun k => hG _ (h.al k) }
theorem rawD_f (d : Dm) (x : Dd) (e : Int) : (rawD d x e).safe = d.safe ∧ (rawD d x e).room = d.room := by
  unfold rawD mayD
  repeat' split
  all_goals exact ⟨rfl, rfl⟩
theorem rawD_ok {d : Dm} (h : d.dead = false) (x : Dd) : (rawD d x 0).queue = d.queue ++ [x] ∧ (rawD d x 0).seen = ddo d.seen x x.units := by
  unfold rawD
  rw [if_pos ⟨h, rfl⟩]
  exact ⟨rfl, rfl⟩
/-- a deed of a drive that lives -/
theorem Dqu.deed {G : Fl → Prop} {d : Dm} (h : Dqu G d) (hd : d.dead = false) {x : Dd} (hx : Dok d.seen x) (hu : x.units ≤ 1000000) (hG : ∀ j, j ≤ x.units → G (ddo d.seen x j)) : Dqu G (rawD d x 0) := by
  obtain ⟨e1, e2⟩ := rawD_f d x 0
  obtain ⟨e3, e4⟩ := rawD_ok hd x
  have hp := x.pos
  refine ⟨fun k => ?_, ?_, ?_, ?_⟩
  · rw [e1, e3]
    by_cases hk : k ≤ units d.queue
    · rw [after_app hk]; exact h.al k
    · rw [after_app2 (by omega), ← h.sn]; exact hG _ (Nat.min_le_right _ _)
  · rw [e1, e3, e4, units_app, after_app2 (by omega), ← h.sn, show min (units d.queue + x.units - units d.queue) x.units = x.units by omega]
  · rw [e1, e3]; exact qok_app h.qo (by rw [← h.sn]; exact hx)
  · rw [e3, units_app, List.length_append, List.length_singleton]; have := h.un; omega
/-- how a deed ends -/
theorem raw_end {d : Dm} (hd : d.dead = false) (x : Dd) : (rawE d 0 = 0 ∧ (rawD d x 0).dead = false ∧ ((rawD d x 0).armed = d.armed)) ∨ (rawE d 0 = 9 ∧ d.armed = true ∧ (rawD d x 0).dead = true) := by
  unfold rawE mayR rawD mayD
  rw [hd]
  by_cases h1 : d.armed = true
  · by_cases h2 : d.left = 0
    · right; simp [h1, h2]
    · left; simp [h1, h2, hd]
  · have h1 : d.armed = false := by simpa using h1
    left; simp [h1, hd]
end Go.Proofs.YtbmhkdcmepfmbaaGreat
set_option linter.unusedVariables false
set_option linter.unusedSimpArgs false
namespace Go.Proofs.YtbmhkdcmepfmbaaGreat
open Go.RowKit
/-- what was saved last, and what may come: cal: nothing is armed -/
structure Cx where
  cal : Bool
  rm : Int
  hand : Int
  me : Option By
  L : Al Int
  RL : Al By
  nt : By
structure Cx.Ok (C : Cx) : Prop where
  m : (C.me = none ∧ C.L = [] ∧ C.nt = []) ∨ C.me = some (metaB C.L C.nt)
  S : ∀ x ∈ C.L, 0 ≤ x.1 ∧ x.1 < 1000 ∧ -1 ≤ x.2
  srt : ASrt C.L
  len : C.L.length ≤ 60
  ntl : C.nt.length ≤ 10000
  keys : C.RL.map (·.1) = C.L.map (·.1)
  dat : ∀ i l, aget C.RL i = some l → l.length = 512
  inj : ∀ i j sl, 0 ≤ sl → aget C.L i = some sl → aget C.L j = some sl → i = j
  rm : 400000 ≤ C.rm ∧ C.rm ≤ 9223372036854775807
  hand : 1 ≤ C.hand
/-- files from which the saved pool can be opened -/
structure Gfl (C : Cx) (Q : Nat) (F : Fl) : Prop where
  srt : Srt F
  nm : ∀ x ∈ F, x.1 = nmP ∨ x.1 = nmM ∨ x.1 = frs nmM
  lp : (foz F nmP).length ≤ 512 * Q
  lm : (foz F nmM).length ≤ 70000
  lt : (foz F (frs nmM)).length ≤ 70000
  me : fget F nmM = C.me
  sl : ∀ x ∈ C.L, (x.2 + 1) * 512 ≤ ((foz F nmP).length : Int)
  da : ∀ i s, aget C.L i = some s → aget C.RL i = some (dsk F s)
/-- how many pages at hand are dirty -/
def nd (H : Al Fr) : Nat := (H.filter fun x => x.2.dirty).length
structure Iv (C : Cx) (E : Int) (Q : Nat) (R : Al By) (s : Ps) (d : Dm) : Prop where
  ok : C.Ok
  dead : d.dead = false
  arm : C.cal = true → d.armed = false
  room : d.room = C.rm
  hQ : Q ≤ 200
  hE : E ≤ 100000
  que : d.queue.length + nd s.H ≤ Q
  siz : (foz d.seen nmP).length + 512 * nd s.H ≤ 512 * Q
  dq : Dqu (Gfl C Q) d
  sb : ∀ x ∈ s.S, 0 ≤ x.1 ∧ x.1 < 1000 ∧ -1 ≤ x.2 ∧ (x.2 + 1) * 512 ≤ ((foz d.seen nmP).length : Int)
  len : s.S.length ≤ 60
  sS : ASrt s.S
  sH : ASrt s.H
  inj : ∀ i j sl, 0 ≤ sl → aget s.S i = some sl → aget s.S j = some sl → i = j
  c : ∀ i, s.c i = cnt C.L i
  ids : ∀ i, (aget s.H i).isSome → (aget s.S i).isSome
  keys : R.map (·.1) = s.S.map (·.1)
  dat : ∀ i l, aget R i = some l → l.length = 512
  hot : ∀ i f, aget s.H i = some f → aget R i = some f.data
  cold : ∀ i sl, aget s.S i = some sl → aget s.H i = none → aget R i = some (dsk d.seen sl)
  cln : ∀ i f sl, aget s.H i = some f → f.dirty = false → aget s.S i = some sl → f.data = dsk d.seen sl
  ev : 0 ≤ s.ev ∧ s.ev + s.H.length ≤ E
  clock : 0 ≤ s.clock ∧ s.clock ≤ E
  hit : 0 ≤ s.hit ∧ s.hit ≤ E
  mis : 0 ≤ s.mis ∧ s.mis ≤ E
  hand : s.hand = C.hand
  hln : (s.H.length : Int) ≤ C.hand
def Jv (C : Cx) (Q : Nat) (d : Dm) : Prop := d.dead = true ∧ C.cal = false ∧ d.room = C.rm ∧ d.queue.length ≤ 1000 ∧ Dqu (Gfl C Q) d
/-! plain facts -/
theorem fdel_sub {F : Fl} {s : By} {x : By × By} (h : x ∈ fdel F s) : x ∈ F := by
  induction F with
  | nil => cases h
  | cons a r ih =>
    obtain ⟨n, m⟩ := a
    rw [fdel] at h
    split at h
    · exact List.mem_cons_of_mem _ h
    · rcases List.mem_cons.1 h with rfl | h
      · exact List.mem_cons_self ..
      · exact List.mem_cons_of_mem _ (ih h)
theorem fdel_ne {F : Fl} (hF : Srt F) {s : By} {x : By × By} (h : x ∈ fdel F s) : x.1 ≠ s := by
  intro e
  have h1 : fget (fdel F s) x.1 = some x.2 := fget_of_mem (hF.del s) (by cases x; exact h)
  rw [fget_del hF, if_pos e] at h1
  cases h1
theorem three_tot {F : Fl} (hF : Srt F) {a b c : By} (h : ∀ x ∈ F, x.1 = a ∨ x.1 = b ∨ x.1 = c) : tot F ≤ (foz F a).length + (foz F b).length + (foz F c).length ∧ F.length ≤ 3 := by
  have h3 : fdel (fdel (fdel F a) b) c = [] := by
    apply List.eq_nil_iff_forall_not_mem.2
    intro x hx
    have n3 := fdel_ne ((hF.del a).del b) hx
    have n2 := fdel_ne (hF.del a) (fdel_sub hx)
    have n1 := fdel_ne hF (fdel_sub (fdel_sub hx))
    rcases h x (fdel_sub (fdel_sub (fdel_sub hx))) with e | e | e
    · exact n1 e
    · exact n2 e
    · exact n3 e
  have t1 := tot_del F a
  have t2 := tot_del (fdel F a) b
  have t3 := tot_del (fdel (fdel F a) b) c
  have l1 := len_del F a
  have l2 := len_del (fdel F a) b
  have l3 := len_del (fdel (fdel F a) b) c
  rw [h3] at t3 l3
  have hz : tot ([] : Fl) = 0 := rfl
  have hle : ∀ (F : Fl) (hF : Srt F) (s x : By), (foz (fdel F s) x).length ≤ (foz F x).length := fun F hF s x => by
    unfold foz
    rw [fget_del hF]
    split
    · simp
    · exact Nat.le_refl _
  have e2 := hle F hF a b
  have e3 := hle (fdel F a) (hF.del a) b c
  have e4 := hle F hF a c
  refine ⟨by omega, ?_⟩
  have : ([] : Fl).length = 0 := rfl
  split at l1 <;> split at l2 <;> split at l3 <;> omega
theorem Gfl.tot {C : Cx} {Q : Nat} {F : Fl} (h : Gfl C Q F) : tot F ≤ 512 * Q + 140000 ∧ F.length ≤ 3 := by
  have h1 := three_tot h.srt h.nm
  have := h.lp; have := h.lm; have := h.lt
  omega
theorem nd_le (H : Al Fr) : nd H ≤ H.length := List.length_filter_le _ _
theorem nd_cons (x : Int × Fr) (r : Al Fr) : nd (x :: r) = (if x.2.dirty then 1 else 0) + nd r := by
  unfold nd
  rw [List.filter_cons]
  cases x.2.dirty <;> simp <;> omega
def dyN (o : Option Fr) : Nat := match o with | some f => if f.dirty then 1 else 0 | none => 0
theorem nd_adel (H : Al Fr) (s : Int) : nd (adel H s) + dyN (aget H s) = nd H := by
  induction H with
  | nil => rfl
  | cons a r ih =>
    obtain ⟨n, m⟩ := a
    rw [adel, aget]
    split
    · rw [nd_cons]; simp only [dyN]; omega
    · rw [nd_cons, nd_cons]; omega
theorem nd_aput {H : Al Fr} (hH : ASrt H) (s : Int) (f : Fr) : nd (aput H s f) + dyN (aget H s) = nd H + (if f.dirty then 1 else 0) := by
  induction H with
  | nil => rw [aput, nd_cons]; simp only [aget, dyN]; omega
  | cons a r ih =>
    obtain ⟨n, m⟩ := a
    have h2 := (List.pairwise_cons.1 hH).1
    rw [aput, aget]
    split
    · rw [nd_cons, nd_cons]; simp only [dyN]; omega
    · rename_i hn
      split
      · rename_i hlt
        rw [aget_ltn h2 hlt, nd_cons]; simp only [dyN]; omega
      · rw [nd_cons, nd_cons]; have := ih hH.tail; omega
theorem aget_keys {α β : Type} {F : Al α} {G : Al β} (h : F.map (·.1) = G.map (·.1)) (i : Int) : (aget F i).isSome = (aget G i).isSome := by
  induction F generalizing G with
  | nil =>
    cases G with
    | nil => rfl
    | cons y r => simp at h
  | cons x r ih =>
    cases G with
    | nil => simp at h
    | cons y q =>
      obtain ⟨a, b⟩ := x
      obtain ⟨c, e⟩ := y
      simp only [List.map_cons, List.cons.injEq] at h
      obtain ⟨rfl, h2⟩ := h
      rw [aget, aget]
      split
      · rfl
      · exact ih h2
theorem srt_keys {α β : Type} {F : Al α} {G : Al β} (h : F.map (·.1) = G.map (·.1)) (hG : ASrt G) : ASrt F := by
  have h1 : (G.map (·.1)).Pairwise (· < ·) := List.pairwise_map.2 hG
  rw [← h] at h1
  exact List.pairwise_map.1 h1
theorem Iv.sR {C : Cx} {E : Int} {Q : Nat} {R : Al By} {s : Ps} {d : Dm} (h : Iv C E Q R s d) : ASrt R := srt_keys h.keys h.sS
theorem cnt_zero {S : Al Int} {n : Int} (h : cnt S n = 0) {x : Int × Int} (hx : x ∈ S) : x.2 ≠ n := by
  intro e
  unfold cnt at h
  have := List.length_eq_zero_iff.1 h
  have h2 : x ∈ S.filter fun x => x.2 = n := List.mem_filter.2 ⟨hx, by simpa using e⟩
  rw [this] at h2
  cases h2
theorem cnt_of_none {S : Al Int} {n : Int} (h : ∀ x ∈ S, x.2 ≠ n) : cnt S n = 0 := by
  unfold cnt
  rw [List.filter_eq_nil_iff.2 fun x hx => by simpa using h x hx]; rfl
theorem cnt_pos {S : Al Int} {n : Int} (h : cnt S n ≠ 0) : ∃ x ∈ S, x.2 = n := by
  refine Classical.byContradiction fun hc => h (cnt_of_none fun x hx e => hc ⟨x, hx, e⟩)
theorem nm_ne : nmP ≠ nmM ∧ nmP ≠ frs nmM ∧ nmM ≠ frs nmM := by decide
end Go.Proofs.YtbmhkdcmepfmbaaGreat
set_option linter.unusedVariables false
set_option linter.unusedSimpArgs false
namespace Go.Proofs.YtbmhkdcmepfmbaaGreat
open Go.RowKit
section
variable {C : Cx} {E : Int} {Q : Nat} {R : Al By} {s : Ps} {d : Dm}
theorem Iv.gs (h : Iv C E Q R s d) : Gfl C Q d.seen := h.dq.seen
def zOf (d : Dm) : Nat := (foz d.seen nmP).length / 512
theorem Iv.zc (h : Iv C E Q R s d) : s.c (zOf d) = 0 ∧ cnt s.S (zOf d) = 0 ∧ zOf d ≤ 200 := by
  have hl := h.gs.lp
  have hq := h.hQ
  refine ⟨?_, cnt_of_none fun x hx e => ?_, by unfold zOf; omega⟩
  · rw [h.c]
    refine cnt_of_none fun x hx e => ?_
    have := h.gs.sl x hx
    rw [e] at this
    unfold zOf at this; omega
  · have := (h.sb x hx).2.2.2
    rw [e] at this
    unfold zOf at this; omega
theorem Iv.slot (h : Iv C E Q R s d) {id sl : Int} (hs : aget s.S id = some sl) {n : Nat} (hn : Sl s sl (zOf d) n) :
    n * 512 ≤ (foz d.seen nmP).length ∧ s.c n = 0 ∧ ∀ i s', i ≠ id → aget s.S i = some s' → s' ≠ n := by
  rcases hn with ⟨rfl, h2⟩ | ⟨_, h2, h3, _, h5⟩
  · have hb := (h.sb _ (aget_mem hs)).2.2.2
    refine ⟨by omega, h2, fun i s' hi hs' e => hi (h.inj i id n (by omega) (by rw [hs', e]) hs)⟩
  · refine ⟨by unfold zOf at h5; omega, h2, fun i s' _ hs' e => cnt_zero h3 (aget_mem hs') e⟩
theorem limq {a b c q : Nat} (h : a ≤ 512 * q) (hq : q ≤ 200) (hb : b ≤ a) (hc : c = 512) : a ≤ lim ∧ b + c ≤ lim := by
  have h9 : 200000 ≤ lim := by decide
  refine ⟨by omega, by omega⟩
theorem Iv.write (h : Iv C E Q R s d) {id sl : Int} {f : Fr} (hf : aget s.H id = some f) (hdy : f.dirty = true) (hs : aget s.S id = some sl) {n : Nat} (hn : Sl s sl (zOf d) n) :
    wrE d nmP ((n : Int) * 512) 512 = 0 ∧ Dqu (Gfl C Q) (rawD d (.write nmP (n * 512) f.data) 0) ∧ foz (rawD d (.write nmP (n * 512) f.data) 0).seen nmP = wrt (foz d.seen nmP) (n * 512) f.data ∧ f.data.length = 512 ∧ 1 ≤ nd s.H := by
  obtain ⟨h1, h2, h3⟩ := h.slot hs hn
  have hda := h.dat _ _ (h.hot _ _ hf)
  have hnd : 1 ≤ nd s.H := by
    have := nd_adel s.H id
    rw [hf] at this
    simp only [dyN, hdy, if_pos] at this
    omega
  have ht := h.gs.tot
  have hq := h.hQ
  have hr := h.ok.rm
  have hrm := h.room
  have hsz := h.siz
  have hsrt := h.gs.srt
  have hu : (Dd.write nmP (n * 512) f.data).units = 513 := by simp [Dd.units, hda]
  have hL : ∀ x ∈ C.L, x.2 ≠ n := fun x hx => cnt_zero (by rw [← h.c]; exact h2) hx
  have hlim : (foz d.seen nmP).length ≤ lim ∧ n * 512 + f.data.length ≤ lim := limq h.gs.lp hq h1 hda
  have hfz : ∀ j, foz (ddo d.seen (.write nmP (n * 512) f.data) j) nmP = wrt (foz d.seen nmP) (n * 512) (f.data.take (j - 1)) := fun j => by
    show (fget (fput _ _ _) nmP).getD [] = _
    rw [fget_put hsrt, if_pos rfl]; rfl
  have ho : ∀ j (x : By), x ≠ nmP → fget (ddo d.seen (.write nmP (n * 512) f.data) j) x = fget d.seen x := fun j x hx => by
    show fget (fput _ _ _) x = _
    rw [fget_put hsrt, if_neg hx]
  refine ⟨?_, h.dq.deed h.dead ⟨h1, hlim.1, hlim.2⟩ (by omega) fun j hj => ?_, ?_, hda, hnd⟩
  · unfold wrE
    rw [if_neg (by omega), if_neg (by rw [hrm]; omega)]
  · have hlen : (wrt (foz d.seen nmP) (n * 512) (f.data.take (j - 1))).length ≤ 512 * Q ∧ (foz d.seen nmP).length ≤ (wrt (foz d.seen nmP) (n * 512) (f.data.take (j - 1))).length := by
      rw [wrt_len, List.length_take]; omega
    refine { srt := hsrt.ddo _ _, nm := fun x hx => ?_, lp := by rw [hfz]; exact hlen.1, lm := ?_, lt := ?_, me := by rw [ho j _ (by decide)]; exact h.gs.me, sl := fun x hx => ?_, da := fun i s' hs' => ?_ }
    · by_cases e : x.1 = nmP
      · exact .inl e
      · have h4 : fget (ddo d.seen (.write nmP (n * 512) f.data) j) x.1 = some x.2 := fget_of_mem (hsrt.ddo _ _) (by cases x; exact hx)
        rw [ho j _ e] at h4
        exact h.gs.nm (x.1, x.2) (fget_mem h4)
    · unfold foz; rw [ho j _ (by decide)]; exact h.gs.lm
    · unfold foz; rw [ho j _ (by decide)]; exact h.gs.lt
    · rw [hfz]; have := h.gs.sl x hx; omega
    · rw [h.gs.da i s' hs']
      congr 1
      have hx := h.gs.sl _ (aget_mem hs')
      have hx2 := hL _ (aget_mem hs')
      simp only at hx hx2
      by_cases hneg : s' < 0
      · rw [dsk_neg _ hneg, dsk_neg _ hneg]
      · obtain ⟨m, rfl⟩ := Int.eq_ofNat_of_zero_le (by omega : 0 ≤ s')
        show dsk _ ((m : Nat) : Int) = dsk _ ((m : Nat) : Int)
        rw [dsk_pg, dsk_pg, hfz, pg_other h1 (by rw [List.length_take]; omega) (fun e => hx2 (by rw [e]))]
  · rw [(rawD_ok h.dead _).2, hfz, hu, show 513 - 1 = 512 from rfl, List.take_of_length_le (by omega)]
theorem Iv.ev1 (h : Iv C E Q R s d) {id : Int} {f : Fr} (hf : aget s.H id = some f) (hdy : f.dirty = false) : Iv C E Q R (evS s id) d := by
  have hlen := len_adel s.H id
  rw [hf, Option.isSome_some, if_pos rfl] at hlen
  have hpos : 1 ≤ s.H.length := by
    cases hH : s.H with
    | nil => rw [hH] at hf; cases hf
    | cons a r => simp
  have hnd := nd_adel s.H id
  have hg : ∀ i, aget (adel s.H id) i = if i = id then none else aget s.H i := fun i => aget_del h.sH id i
  have hev := h.ev
  have hq := h.que
  have hs := h.siz
  have hl := h.hln
  obtain ⟨sl, hsl⟩ := Option.isSome_iff_exists.1 (h.ids id (by rw [hf]; rfl))
  refine { h with que := ?_, siz := ?_, sH := h.sH.del id, ids := fun i hi => ?_, hot := fun i g hi => ?_, cold := fun i s' hi hn => ?_, cln := fun i g s' hi => ?_, ev := ?_, hln := ?_ }
  · show d.queue.length + nd (adel s.H id) ≤ Q; omega
  · show (foz d.seen nmP).length + 512 * nd (adel s.H id) ≤ 512 * Q; omega
  · have hi : (aget (adel s.H id) i).isSome := hi
    rw [hg] at hi
    split at hi
    · cases hi
    · exact h.ids i hi
  · have hi : aget (adel s.H id) i = some g := hi
    rw [hg] at hi
    split at hi
    · cases hi
    · exact h.hot i g hi
  · have hn : aget (adel s.H id) i = none := hn
    rw [hg] at hn
    split at hn
    · rename_i e
      subst e
      rw [h.hot _ _ hf, h.cln _ _ _ hf hdy hi]
    · exact h.cold i s' hi hn
  · have hi : aget (adel s.H id) i = some g := hi
    rw [hg] at hi
    split at hi
    · cases hi
    · exact h.cln i g s' hi
  · show 0 ≤ s.ev + 1 ∧ s.ev + 1 + ((adel s.H id).length : Int) ≤ E; omega
  · show ((adel s.H id).length : Int) ≤ C.hand; omega
theorem Iv.clean1 (h : Iv C E Q R s d) {id sl : Int} {f : Fr} (hf : aget s.H id = some f) (hdy : f.dirty = true) (hs : aget s.S id = some sl) {n : Nat} (hn : Sl s sl (zOf d) n) :
    pcE d n ≠ 8 ∧ (pcE d n = 0 → Iv C E Q R (pcS s id f n) (pcD d n f.data)) ∧ (pcE d n ≠ 0 → Jv C Q (pcD d n f.data)) := by
  obtain ⟨w1, w2, w3, w4, w5⟩ := h.write hf hdy hs hn
  obtain ⟨h1, h2, h3⟩ := h.slot hs hn
  have hE : pcE d n = rawE d 0 := by unfold pcE; rw [w1]
  have hD : pcD d n f.data = rawD d (.write nmP (n * 512) f.data) 0 := by unfold pcD; rw [w1]
  rw [hE, hD]
  obtain ⟨r1, r2⟩ := rawD_f d (.write nmP (n * 512) f.data) 0
  obtain ⟨r3, r4⟩ := rawD_ok h.dead (.write nmP (n * 512) f.data)
  have hql : (rawD d (.write nmP (n * 512) f.data) 0).queue.length = d.queue.length + 1 := by rw [r3, List.length_append]; rfl
  have hQ := h.hQ
  have hq := h.que
  rcases raw_end h.dead (.write nmP (n * 512) f.data) with ⟨e1, e2, e3⟩ | ⟨e1, e2, e3⟩
  · refine ⟨by omega, fun _ => ?_, fun hc => absurd e1 hc⟩
    have hnd := nd_aput h.sH id { f with dirty := false }
    rw [hf] at hnd
    simp only [dyN, hdy, if_pos] at hnd
    have hnd : nd (aput s.H id { f with dirty := false }) + 1 = nd s.H := by simpa using hnd
    have hgS : ∀ i, aget (aput s.S id n) i = if i = id then some (n : Int) else aget s.S i := fun i => aget_put h.sS id _ i
    have hgH : ∀ i, aget (aput s.H id { f with dirty := false }) i = if i = id then some { f with dirty := false } else aget s.H i := fun i => aget_put h.sH id _ i
    have hlS : (aput s.S id n).length = s.S.length := by rw [len_aput _ h.sS, hs]; rfl
    have hlH : (aput s.H id { f with dirty := false }).length = s.H.length := by rw [len_aput _ h.sH, hf]; rfl
    have hkey : (aput s.S id (n : Int)).map (·.1) = s.S.map (·.1) := aput_keys _ h.sS _ _ (by rw [hs]; rfl)
    have hwl : (wrt (foz d.seen nmP) (n * 512) f.data).length = max (foz d.seen nmP).length (n * 512 + 512) := by rw [wrt_len, w4]
    have hsiz := h.siz
    have hdn : dsk (rawD d (.write nmP (n * 512) f.data) 0).seen (n : Int) = f.data := by rw [dsk_pg, w3]; exact pg_same h1 w4
    have hdo : ∀ i s', i ≠ id → aget s.S i = some s' → dsk (rawD d (.write nmP (n * 512) f.data) 0).seen s' = dsk d.seen s' := fun i s' hi hs' => by
      have hne := h3 i s' hi hs'
      by_cases hneg : s' < 0
      · rw [dsk_neg _ hneg, dsk_neg _ hneg]
      · obtain ⟨m, rfl⟩ := Int.eq_ofNat_of_zero_le (by omega : 0 ≤ s')
        show dsk _ ((m : Nat) : Int) = dsk _ ((m : Nat) : Int)
        rw [dsk_pg, dsk_pg, w3, pg_other h1 (by omega) (fun e => hne (by rw [e]))]
    refine { ok := h.ok, dead := e2, arm := fun hc => by rw [e3]; exact h.arm hc, room := by rw [r2]; exact h.room, hQ := hQ, hE := h.hE, que := ?_, siz := ?_, dq := w2, sb := fun x hx => ?_, len := by show (aput s.S id (n : Int)).length ≤ 60; rw [hlS]; exact h.len, sS := h.sS.put id _, sH := h.sH.put id _, inj := fun i j a ha hi hj => ?_, c := h.c, ids := fun i hi => ?_, keys := by rw [h.keys]; exact hkey.symm, dat := h.dat, hot := fun i g hi => ?_, cold := fun i s' hi hno => ?_, cln := fun i g s' hi hg hs' => ?_, ev := ?_, clock := h.clock, hit := h.hit, mis := h.mis, hand := h.hand, hln := ?_ }
    · show (rawD d (.write nmP (n * 512) f.data) 0).queue.length + nd (aput s.H id { f with dirty := false }) ≤ Q; omega
    · show (foz (rawD d (.write nmP (n * 512) f.data) 0).seen nmP).length + 512 * nd (aput s.H id { f with dirty := false }) ≤ 512 * Q; rw [w3, hwl]; omega
    · have hx : x ∈ aput s.S id (n : Int) := hx
      have hx2 := aget_of_mem (h.sS.put id (n : Int)) (s := x.1) (l := x.2) (by cases x; exact hx)
      rw [hgS] at hx2
      rw [w3, hwl]
      split at hx2
      · rename_i e
        have hx2 := Option.some.inj hx2
        have := h.sb _ (aget_mem hs)
        have e : x.1 = id := e
        rw [e, ← hx2]
        simp only at this
        omega
      · have := h.sb _ (aget_mem hx2)
        simp only at this
        omega
    · have hi : aget (aput s.S id (n : Int)) i = some a := hi
      have hj : aget (aput s.S id (n : Int)) j = some a := hj
      rw [hgS] at hi hj
      split at hi <;> split at hj
      · omega
      · rename_i e e'
        cases hi
        exact absurd rfl (h3 j _ e' hj)
      · rename_i e e'
        cases hj
        exact absurd rfl (h3 i _ e hi)
      · exact h.inj i j a ha hi hj
    · have hi : (aget (aput s.H id { f with dirty := false }) i).isSome := hi
      show (aget (aput s.S id (n : Int)) i).isSome
      rw [hgS]
      rw [hgH] at hi
      split
      · rfl
      · rename_i e
        rw [if_neg e] at hi
        exact h.ids i hi
    · have hi : aget (aput s.H id { f with dirty := false }) i = some g := hi
      rw [hgH] at hi
      split at hi
      · rename_i e
        cases hi
        subst e
        exact h.hot i f hf
      · exact h.hot i g hi
    · have hi : aget (aput s.S id (n : Int)) i = some s' := hi
      have hno : aget (aput s.H id { f with dirty := false }) i = none := hno
      rw [hgH] at hno
      rw [hgS] at hi
      split at hno
      · cases hno
      · rename_i e
        rw [if_neg e] at hi
        rw [hdo i s' e hi]
        exact h.cold i s' hi hno
    · have hi : aget (aput s.H id { f with dirty := false }) i = some g := hi
      have hs' : aget (aput s.S id (n : Int)) i = some s' := hs'
      rw [hgH] at hi
      rw [hgS] at hs'
      split at hi
      · rename_i e
        rw [if_pos e] at hs'
        cases hi
        cases hs'
        exact hdn.symm
      · rename_i e
        rw [if_neg e] at hs'
        rw [hdo i s' e hs']
        exact h.cln i g s' hi hg hs'
    · show 0 ≤ s.ev ∧ s.ev + ((aput s.H id { f with dirty := false }).length : Int) ≤ E; rw [hlH]; exact h.ev
    · show ((aput s.H id { f with dirty := false }).length : Int) ≤ C.hand; rw [hlH]; exact h.hln
  · refine ⟨by omega, fun hc => by omega, fun _ => ⟨e3, ?_, by rw [r2]; exact h.room, by omega, w2⟩⟩
    cases hc : C.cal
    · rfl
    · have := h.arm hc; rw [this] at e2; cases e2
end
end Go.Proofs.YtbmhkdcmepfmbaaGreat
set_option linter.unusedVariables false
set_option linter.unusedSimpArgs false
namespace Go.Proofs.YtbmhkdcmepfmbaaGreat
open Go.RowKit
section
variable {C : Cx} {E : Int} {Q : Nat} {R : Al By} {s : Ps} {d : Dm}
theorem Iv.pb (h : Iv C E Q R s d) : Pb s ∧ Db d := by
  have hl := h.gs.lp
  have hq := h.hQ
  have ht := h.gs.tot
  have hr := h.ok.rm
  have hrm := h.room
  have hqu := h.que
  refine ⟨{ S := fun x hx => ?_, len := by have := h.len; omega, c := fun i => ?_, dat := fun i f hf => h.dat _ _ (h.hot _ _ hf), ids := h.ids }, { tot := by omega, room := ⟨by omega, by omega⟩, len := by omega, que := by omega }⟩
  · have := h.sb x hx
    exact ⟨this.1, by omega, this.2.2.1, by omega⟩
  · rw [h.c]; have := cnt_le C.L i; have := h.ok.len; omega
/-- counts since s0 -/
def St (s0 s : Ps) : Prop := s.hit = s0.hit ∧ s.mis = s0.mis ∧ s0.ev ≤ s.ev
theorem hv_iv (C : Cx) (E : Int) (hE : E ≤ 100000) (Q : Nat) (R : Al By) (s0 : Ps) : Hv (fun s d => Iv C E Q R s d ∧ St s0 s) (Jv C Q) C.hand 100000 where
  pb := fun s d ⟨h, _⟩ => by
    have := h.ev; have := h.clock; have := h.hit; have := h.mis
    exact ⟨h.pb.1, h.pb.2, by omega, by omega, h.hand, by omega, by omega, by omega⟩
  z := fun s d ⟨h, h2⟩ => by
    obtain ⟨z1, z2, z3⟩ := h.zc
    refine ⟨zOf d, by omega, z1, z2, fun id f sl hf hs => ⟨fun hdy => ⟨h.ev1 hf hdy, h2.1, h2.2.1, by show s0.ev ≤ s.ev + 1; have := h2.2.2; omega⟩, fun hdy n hn => ?_⟩⟩
    obtain ⟨c1, c2, c3⟩ := h.clean1 hf hdy hs hn
    refine ⟨c1, fun h0 => ⟨(c2 h0).ev1 (f := { f with dirty := false }) ?_ rfl, h2.1, h2.2.1, by show s0.ev ≤ s.ev + 1; have := h2.2.2; omega⟩, c3⟩
    show aget (aput s.H id { f with dirty := false }) id = _
    rw [aget_put h.sH, if_pos rfl]
theorem pcE_9 {d : Dm} {n : Nat} (hw : wrE d nmP ((n : Int) * 512) 512 = 0) (hd : d.dead = false) (h : pcE d n ≠ 0) : pcE d n = 9 := by
  have hE : pcE d n = rawE d 0 := by unfold pcE; rw [hw]
  rw [hE] at h ⊢
  rcases raw_end hd (.rem []) with ⟨e1, _⟩ | ⟨e1, _⟩
  · exact absurd e1 h
  · exact e1
theorem hs_iv (C : Cx) (E : Int) (hE : E ≤ 100000) (Q : Nat) (R : Al By) (s0 : Ps) : Hs (fun s d => Iv C E Q R s d ∧ (s.hit = s0.hit ∧ s.mis = s0.mis ∧ s.ev = s0.ev ∧ s.H.map (·.1) = s0.H.map (·.1))) (Jv C Q) where
  pb := fun s d ⟨h, _⟩ => by
    have := h.ev; have := h.que; have := h.hQ; have := h.len; have := h.hE
    exact ⟨h.pb.1, h.pb.2, h.gs.srt, by omega, by omega, by omega⟩
  z := fun s d ⟨h, h2⟩ => by
    obtain ⟨z1, z2, z3⟩ := h.zc
    refine ⟨zOf d, by omega, z1, z2, fun id f sl hf hs hdy n hn => ?_⟩
    obtain ⟨c1, c2, c3⟩ := h.clean1 hf hdy hs hn
    refine ⟨fun h0 => ⟨c2 h0, h2.1, h2.2.1, h2.2.2.1, ?_⟩, fun h0 => ⟨pcE_9 (h.write hf hdy hs hn).1 h.dead h0, c3 h0⟩⟩
    show (aput s.H id _).map (·.1) = _
    rw [aput_keys _ h.sH _ _ (by rw [hf]; rfl)]
    exact h2.2.2.2
/-! hold -/
theorem Iv.more (h : Iv C E Q R s d) {E' : Int} {Q' : Nat} (hE : E ≤ E') (hQ : Q ≤ Q') (hE' : E' ≤ 100000) (hQ' : Q' ≤ 200) : Iv C E' Q' R s d := by
  have := h.ev; have := h.clock; have := h.hit; have := h.mis; have := h.que; have := h.siz
  exact { h with hQ := hQ', hE := hE', que := by omega, siz := by omega, dq := h.dq.mono fun F g => { g with lp := by have := g.lp; omega }, ev := by omega, clock := by omega, hit := by omega, mis := by omega }
theorem Iv.hold (h : Iv C E Q R s d) {id : Int} {l : By} (hid : (aget R id).isSome) (hl : l.length = 512) (hh : (aget s.H id).isSome ∨ (s.H.length : Int) < C.hand) (hE : E + 1 ≤ 100000) (hQ : Q + 1 ≤ 200) : Iv C (E + 1) (Q + 1) (aput R id l) (hoS s id l true) d := by
  have hk := h.ev; have hc := h.clock; have hi := h.hit; have hm := h.mis; have hq := h.que; have hs := h.siz
  have hHl := len_aput s.H h.sH id ⟨l, ((aget s.H id).getD ⟨[], false, 0⟩).dirty || true, s.clock + 1⟩
  have hnd := nd_aput h.sH id ⟨l, ((aget s.H id).getD ⟨[], false, 0⟩).dirty || true, s.clock + 1⟩
  have hd1 : nd (aput s.H id ⟨l, ((aget s.H id).getD ⟨[], false, 0⟩).dirty || true, s.clock + 1⟩) ≤ nd s.H + 1 := by
    split at hnd <;> omega
  have hgH : ∀ i, aget (aput s.H id ⟨l, ((aget s.H id).getD ⟨[], false, 0⟩).dirty || true, s.clock + 1⟩) i = if i = id then some ⟨l, ((aget s.H id).getD ⟨[], false, 0⟩).dirty || true, s.clock + 1⟩ else aget s.H i := fun i => aget_put h.sH id _ i
  have hgR : ∀ i, aget (aput R id l) i = if i = id then some l else aget R i := fun i => aget_put h.sR id _ i
  have hln := h.hln
  have hsS : (aget s.S id).isSome := by rw [← aget_keys h.keys]; exact hid
  refine { h.more (E' := E + 1) (Q' := Q + 1) (by omega) (by omega) hE hQ with que := ?_, siz := ?_, sH := h.sH.put id _, ids := fun i hi => ?_, keys := by rw [aput_keys _ h.sR _ _ hid]; exact h.keys, dat := fun i l' hi => ?_, hot := fun i g hi => ?_, cold := fun i s' hi hn => ?_, cln := fun i g s' hi hg hs' => ?_, ev := ?_, clock := ?_, hln := ?_ }
  · show d.queue.length + nd (aput s.H id _) ≤ Q + 1; omega
  · show (foz d.seen nmP).length + 512 * nd (aput s.H id _) ≤ 512 * (Q + 1); omega
  · have hi : (aget (aput s.H id _) i).isSome := hi
    rw [hgH] at hi
    split at hi
    · rename_i e; subst e; exact hsS
    · exact h.ids i hi
  · rw [hgR] at hi
    split at hi
    · cases hi; exact hl
    · exact h.dat i l' hi
  · have hi : aget (aput s.H id _) i = some g := hi
    rw [hgH] at hi
    rw [hgR]
    split at hi
    · rename_i e
      cases hi
      rw [if_pos e]
    · rename_i e
      rw [if_neg e]
      exact h.hot i g hi
  · have hn : aget (aput s.H id _) i = none := hn
    rw [hgH] at hn
    rw [hgR]
    split at hn
    · cases hn
    · rename_i e
      rw [if_neg e]
      exact h.cold i s' hi hn
  · have hi : aget (aput s.H id _) i = some g := hi
    rw [hgH] at hi
    split at hi
    · cases hi
      simp at hg
    · exact h.cln i g s' hi hg hs'
  · show 0 ≤ s.ev ∧ s.ev + ((aput s.H id _).length : Int) ≤ E + 1
    split at hHl <;> omega
  · show 0 ≤ s.clock + 1 ∧ s.clock + 1 ≤ E + 1; omega
  · show ((aput s.H id _).length : Int) ≤ C.hand
    split at hHl
    · omega
    · rename_i e
      rcases hh with hh | hh
      · exact absurd hh e
      · omega
theorem Iv.fetch (h : Iv C E Q R s d) {id : Int} {l : By} (hid : aget R id = some l) (hn0 : aget s.H id = none) (hh : (s.H.length : Int) < C.hand) (hE : E + 1 ≤ 100000) : Iv C (E + 1) Q R (gmS s id l) d := by
  have hk := h.ev; have hc := h.clock; have hi := h.hit; have hm := h.mis; have hq := h.que; have hs := h.siz
  have hHl := len_aput s.H h.sH id ⟨l, ((aget s.H id).getD ⟨[], false, 0⟩).dirty || false, s.clock + 1⟩
  have hnd := nd_aput h.sH id ⟨l, ((aget s.H id).getD ⟨[], false, 0⟩).dirty || false, s.clock + 1⟩
  rw [hn0] at hHl hnd
  simp only [Option.getD_none, Bool.or_false, dyN] at hHl hnd
  have hgH : ∀ i, aget (aput s.H id ⟨l, false, s.clock + 1⟩) i = if i = id then some ⟨l, false, s.clock + 1⟩ else aget s.H i := fun i => aget_put h.sH id _ i
  have e : (gmS s id l).H = aput s.H id ⟨l, false, s.clock + 1⟩ := by unfold gmS hoS; simp only [hn0, Option.getD_none, Bool.or_false]
  have hsS : (aget s.S id).isSome := by rw [← aget_keys h.keys, hid]; rfl
  refine { h.more (E' := E + 1) (Q' := Q) (by omega) (by omega) hE h.hQ with que := ?_, siz := ?_, sH := by rw [e]; exact h.sH.put id _, ids := fun i hi => ?_, hot := fun i g hi => ?_, cold := fun i s' hi hn => ?_, cln := fun i g s' hi hg hs' => ?_, ev := ?_, clock := ?_, mis := ?_, hln := ?_ }
  · rw [e]; simp at hnd; omega
  · rw [e]; simp at hnd; omega
  · rw [e, hgH] at hi
    split at hi
    · rename_i e; subst e; exact hsS
    · exact h.ids i hi
  · rw [e, hgH] at hi
    split at hi
    · rename_i e
      cases hi
      rw [e]; exact hid
    · exact h.hot i g hi
  · rw [e, hgH] at hn
    split at hn
    · cases hn
    · exact h.cold i s' hi hn
  · rw [e, hgH] at hi
    split at hi
    · rename_i e2
      cases hi
      subst e2
      have := h.cold i s' hs' hn0
      rw [hid] at this
      exact Option.some.inj this
    · exact h.cln i g s' hi hg hs'
  · show 0 ≤ s.ev ∧ _
    rw [e, hHl]
    show 0 ≤ s.ev ∧ s.ev + ((s.H.length + 1 : Nat) : Int) ≤ E + 1
    omega
  · show 0 ≤ s.clock + 1 ∧ s.clock + 1 ≤ E + 1; omega
  · show 0 ≤ s.mis + 1 ∧ s.mis + 1 ≤ E + 1; omega
  · rw [e, hHl]
    show ((s.H.length + 1 : Nat) : Int) ≤ C.hand
    omega
theorem Iv.touch (h : Iv C E Q R s d) {id : Int} {f : Fr} (hf : aget s.H id = some f) (hE : E + 1 ≤ 100000) : Iv C (E + 1) Q R (giS s id f) d := by
  have hk := h.ev; have hc := h.clock; have hi := h.hit; have hm := h.mis; have hq := h.que; have hs := h.siz
  have hHl := len_aput s.H h.sH id { f with used := s.clock + 1 }
  have hnd := nd_aput h.sH id { f with used := s.clock + 1 }
  rw [hf] at hHl hnd
  simp only [Option.isSome_some, if_pos, dyN] at hHl hnd
  have hgH : ∀ i, aget (aput s.H id { f with used := s.clock + 1 }) i = if i = id then some { f with used := s.clock + 1 } else aget s.H i := fun i => aget_put h.sH id _ i
  refine { h.more (E' := E + 1) (Q' := Q) (by omega) (by omega) hE h.hQ with que := ?_, siz := ?_, sH := h.sH.put id _, ids := fun i hi => ?_, hot := fun i g hi => ?_, cold := fun i s' hi hn => ?_, cln := fun i g s' hi hg hs' => ?_, ev := ?_, clock := ?_, hit := ?_, hln := ?_ }
  · show d.queue.length + nd (aput s.H id _) ≤ Q; omega
  · show (foz d.seen nmP).length + 512 * nd (aput s.H id _) ≤ 512 * Q; omega
  · have hi : (aget (aput s.H id _) i).isSome := hi
    rw [hgH] at hi
    split at hi
    · rename_i e; subst e; exact h.ids i (by rw [hf]; rfl)
    · exact h.ids i hi
  · have hi : aget (aput s.H id _) i = some g := hi
    rw [hgH] at hi
    split at hi
    · rename_i e
      cases hi
      rw [e]; exact h.hot id f hf
    · exact h.hot i g hi
  · have hn : aget (aput s.H id _) i = none := hn
    rw [hgH] at hn
    split at hn
    · cases hn
    · exact h.cold i s' hi hn
  · have hi : aget (aput s.H id _) i = some g := hi
    rw [hgH] at hi
    split at hi
    · rename_i e2
      cases hi
      subst e2
      exact h.cln i f s' hf hg hs'
    · exact h.cln i g s' hi hg hs'
  · show 0 ≤ s.ev ∧ s.ev + ((aput s.H id _).length : Int) ≤ E + 1
    rw [hHl]; omega
  · show 0 ≤ s.clock + 1 ∧ s.clock + 1 ≤ E + 1; omega
  · show 0 ≤ s.hit + 1 ∧ s.hit + 1 ≤ E + 1; omega
  · show ((aput s.H id _).length : Int) ≤ C.hand
    rw [hHl]; exact h.hln
end
end Go.Proofs.YtbmhkdcmepfmbaaGreat
