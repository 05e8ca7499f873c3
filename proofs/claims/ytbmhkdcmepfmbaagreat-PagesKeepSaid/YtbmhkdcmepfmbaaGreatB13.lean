/- strings.Join: the contract of the library, laid at this program; Dir.Path. drive.Trim, Rename, Remove. slices.Index, slices.Contains of names; Clear's two function literals; IndexFunc and DeleteFunc with them. Printed by gendg.py. drive.Crash. drive.Replace. -/
import Derived.Shelf.Strings.OnBuilder
import Derived.Test.YtbmhkdcmepfmbaaGreatB11
import Derived.Test.YtbmhkdcmepfmbaaGreatB02
import Derived.Test.YtbmhkdcmepfmbaaGreatB09
set_option linter.unusedVariables false
set_option linter.unusedSimpArgs false
namespace Go.Proofs.YtbmhkdcmepfmbaaGreat
open Go.Shelf
def Tryz.lays156_ren : Go.Shelf.Ren := ⟨fun | 156 => 80 | 165 => 102 | 166 => 103 | 169 => 104 | 240 => 124 | 241 => 125 | 276 => 136 | 277 => 137 | n => n, fun | 31 => 130 | 9 => 9 | 3 => 3 | 4 => 4 | 0 => 0 | 20 => 20 | 72 => 174 | 76 => 177 | 70 => 172 | 37 => 22 | 75 => 176 | 127 => 195 | 164 => 206 | 5 => 5 | 80 => 76 | n => n, fun | n => n⟩
theorem Tryz.lays156 : Go.Proofs.Lays.n156 Tryz.prog Tryz.lays156_ren := {
  mixed := by kernel_rfl
  f156 := Tryz.func80.trans (congrArg some (by kernel_rfl))
  f165 := Tryz.func102.trans (congrArg some (by kernel_rfl))
  f166 := Tryz.func103.trans (congrArg some (by kernel_rfl))
  f169 := Tryz.func104.trans (congrArg some (by kernel_rfl))
  f240 := Tryz.func124.trans (congrArg some (by kernel_rfl))
  f241 := Tryz.func125.trans (congrArg some (by kernel_rfl))
  f276 := Tryz.func136.trans (congrArg some (by kernel_rfl))
  f277 := Tryz.func137.trans (congrArg some (by kernel_rfl))
  t0 := Tryz.underlying0
  a0 := Tryz.isAgg0
  z0 := Tryz.sizeOf0
  v0 := Tryz.zeroValue0
  t3 := Tryz.underlying3
  a3 := Tryz.isAgg3
  z3 := Tryz.sizeOf3
  v3 := Tryz.zeroValue3
  t4 := Tryz.underlying4
  a4 := Tryz.isAgg4
  z4 := Tryz.sizeOf4
  v4 := Tryz.zeroValue4
  t9 := Tryz.underlying9
  a9 := Tryz.isAgg9
  z9 := Tryz.sizeOf9
  v9 := Tryz.zeroValue9
  t20 := Tryz.underlying20
  a20 := Tryz.isAgg20
  z20 := Tryz.sizeOf20
  v20 := Tryz.zeroValue20
  t31 := Tryz.underlying130
  a31 := Tryz.isAgg130
  z31 := Tryz.sizeOf130
  v31 := Tryz.zeroValue130
  t37 := Tryz.underlying22
  a37 := Tryz.isAgg22
  z37 := Tryz.sizeOf22
  v37 := Tryz.zeroValue22
  t70 := Tryz.underlying172
  a70 := Tryz.isAgg172
  z70 := Tryz.sizeOf172
  v70 := Tryz.zeroValue172
  t72 := Tryz.underlying174
  a72 := Tryz.isAgg174
  z72 := Tryz.sizeOf174
  v72 := Tryz.zeroValue174
  t75 := Tryz.underlying176
  a75 := Tryz.isAgg176
  z75 := Tryz.sizeOf176
  v75 := Tryz.zeroValue176
  t76 := Tryz.underlying177
  a76 := Tryz.isAgg177
  z76 := Tryz.sizeOf177
  v76 := Tryz.zeroValue177
  t127 := Tryz.underlying195
  a127 := Tryz.isAgg195
  z127 := Tryz.sizeOf195
  v127 := Tryz.zeroValue195
  t164 := Tryz.underlying206
  a164 := Tryz.isAgg206
  z164 := Tryz.sizeOf206
  v164 := Tryz.zeroValue206 }
theorem Tryz.Builder_Extra_156 : Builder.Extra Tryz.prog Tryz.lays156_ren := {
  sizeBuilder := by kernel_rfl
  liesBuilder := by kernel_rfl
  t5 := Tryz.underlying5
  a5 := Tryz.isAgg5
  z5 := Tryz.sizeOf5
  v5 := Tryz.zeroValue5
  infoByte := by kernel_rfl
  cellsByte := by kernel_rfl
  sizeByte := by kernel_rfl
  neB5 := by decide }
open Go.RowKit in
/-- No element: the empty string; the world is as it was. (Whatever the slice's address and capacity: a nil slice too.) (LAID: no walk: one application.) -/
theorem Tryz.strings_Join_none (a : Option Addr) (c : Nat) (sep : ByteArray) (w : World) :
    Calls Tryz.prog 80 #[.slice a 0 c, .string sep] w fun e w' => e = .returned (.string ⟨#[]⟩) ∧ w' = w := Any.strings_Join_none Tryz.lays156 Tryz.Builder_Extra_156 a c sep w
open Go.RowKit in
/-- strings.Join: "Join concatenates the elements of its first argument to create a single string. The separator string sep is placed between elements in the resulting string.": HOWEVER MANY ELEMENTS. Below the heap's end the world is as it was. (LAID: no walk: one application.) -/
theorem Tryz.strings_Join (bk o c : Nat) (xs : List ByteArray) (sep : ByteArray) (w : World) (hcells : ∀ (j : Nat) x, xs[j]? = some x → w.cell? ⟨bk, o + j, none⟩ = some (.string x)) (hbk : bk < w.heap.size) (hN : xs.length ≤ 140737488355328) (hcap : xs.length ≤ c) (hlen : (Lib.join (xs.map (·.data.toList)) sep.data.toList).length ≤ 140737488355328) :
    Calls Tryz.prog 80 #[.slice (some ⟨bk, o, none⟩) xs.length c, .string sep] w fun e w' => e = .returned (.string ⟨(Lib.join (xs.map (·.data.toList)) sep.data.toList).toArray⟩) ∧ Below w.heap.size w w' := Any.strings_Join Tryz.lays156 Tryz.Builder_Extra_156 bk o c xs sep w hcells hbk hN hcap hlen
open Go.RowKit
attribute [local go_sem ↓] Go.wp_at_zero Go.wp_at_succ
theorem join_nil (xs : List (List UInt8)) : Lib.join xs [] = xs.flatten := by
  unfold Lib.join
  induction xs with
  | nil => rfl
  | cons x xs ih =>
    cases xs with
    | nil => simp [List.intercalate]
    | cons y r =>
      rw [List.flatten_cons, ← ih]
      simp [List.intercalate, List.intersperse]
/-- strings.Join without anything between -/
theorem join_any {A : Nat → Prop} {w : World} {u : Value} {l : List (List UInt8)} (h : Ss A w u l) (hl : l.flatten.length ≤ 100000000) : Calls Tryz.prog 80 #[u, .string ⟨#[]⟩] w fun e w' => e = .returned (.string ⟨l.flatten.toArray⟩) ∧ Below w.heap.size w w' := by
  obtain ⟨a, c, rfl, hc, ha, H⟩ := h.at
  cases l with
  | nil => exact (Tryz.strings_Join_none a c ⟨#[]⟩ w).mono fun e w' ⟨h1, h2⟩ => ⟨h1, by rw [h2]; exact Below.refl _ _⟩
  | cons x r =>
    obtain ⟨b, o, rfl, _, hu⟩ := H 0 (by simp)
    have hb : b < w.heap.size := World.block_lt_of_cell? w ⟨b, o + 0, none⟩ hu
    have hj : Lib.join (((x :: r).map fun y => (⟨y.toArray⟩ : ByteArray)).map (·.data.toList)) ((⟨#[]⟩ : ByteArray)).data.toList = (x :: r).flatten := by
      rw [List.map_map]
      show Lib.join ((x :: r).map fun y => y) [] = _
      rw [List.map_id', join_nil]
    have := Tryz.strings_Join b o c ((x :: r).map fun y => ⟨y.toArray⟩) ⟨#[]⟩ w (fun j y hj => by
      rw [List.getElem?_map] at hj
      obtain ⟨z, hz, rfl⟩ := Option.map_eq_some_iff.1 hj
      obtain ⟨hj', rfl⟩ := List.getElem?_eq_some_iff.1 hz
      obtain ⟨b', o', e, _, hu'⟩ := H j hj'
      cases e
      exact hu') hb (by rw [List.length_map]; have := h.2; unfold lim at this; omega) (by rw [List.length_map]; exact hc) (by rw [hj]; omega)
    rw [hj, List.length_map] at this
    exact this
set_option maxRecDepth 100000 in
set_option maxHeartbeats 1000000 in
/-- Dir.Path -/
theorem path_any {A : Nat → Prop} {w : World} {b : Nat} {u : Value} {ps : List (List UInt8)} (p : List UInt8) (h : Ss A w u ps) (hl : p.length + ps.flatten.length ≤ 100000000) :
    Calls Tryz.prog 56 #[.agg #[.pointer (some ⟨b, 0, none⟩), .string ⟨p.toArray⟩], u] w fun e w' => e = .returned (.string ⟨(p ++ ps.flatten).toArray⟩) ∧ Below w.heap.size w w' := by
  obtain ⟨W, hW⟩ : ∃ W, W = w.alloc (.cells #[.pointer (some ⟨b, 0, none⟩), .string ⟨p.toArray⟩] 61) := ⟨_, rfl⟩
  have HB : Hid (Below w.heap.size w W) := by rw [hW]; exact up_alloc _ _
  have hc : W.cell? ⟨w.heap.size, 1, none⟩ = some (.string ⟨p.toArray⟩) := by
    have hb : W.heap[w.heap.size]? = some (.cells #[.pointer (some ⟨b, 0, none⟩), .string ⟨p.toArray⟩] 61) := by rw [hW]; exact heap_alloc_new w _
    simp only [World.cell?, hb]; rfl
  have HJ : Hid (∀ q : Ups W, Calls Tryz.prog 80 #[u, .string ⟨#[]⟩] q.nx fun e w' => e = .returned (.string ⟨ps.flatten.toArray⟩) ∧ Below q.nx.heap.size q.nx w') := fun q => join_any (h.up (bt HB.out q.ok)) (by omega)
  obtain ⟨ua, uc, rfl, _⟩ := h.at
  have hlen : (p.length : Int) + (ps.flatten.length : Int) ≤ 100000000 := by omega
  have e1 : (⟨p.toArray⟩ : ByteArray).size = p.length := by simp [ByteArray.size]
  have e2 : (⟨ps.flatten.toArray⟩ : ByteArray).size = ps.flatten.length := by simp [ByteArray.size]
  have e3 := ba_app p ps.flatten
  clear h hl
  generalize ps.flatten = f at *
  have hlim : ¬ 9223372036854775807 < p.length + f.length := by omega
  go_enter Tryz.func56, Tryz.ntmps56
  go_wp2_with fail
  rw [← hW]
  clear hW
  have r1 : ∀ q : Ups W, q.nx.cell? ⟨w.heap.size, 1, none⟩ = some _ := fun q => q.cell hc
  refine wp_region_up (by kernel_rfl) (by kernel_rfl) ?_
  repeat (go_big_quiet_step (exact ups_call (HJ.out _)))
  refine wpQuiet_nil ?_
  intro _ hw'
  obtain ⟨q, hw''⟩ := hw'
  subst hw''
  have HQ := Hid.mk' (bt HB.out q.ok)
  generalize q.nx = w2 at *
  clear q
  go_wp2_with fail
  go_ret
  exact ⟨rfl, HQ.out⟩
end Go.Proofs.YtbmhkdcmepfmbaaGreat
set_option linter.unusedVariables false
set_option linter.unusedSimpArgs false
namespace Go.Proofs.YtbmhkdcmepfmbaaGreat
open Go.RowKit
attribute [local go_sem ↓] Go.wp_at_zero Go.wp_at_succ
set_option maxRecDepth 100000 in
set_option maxHeartbeats 2000000 in
/-- drive.Rename -/
theorem rename_any {M D : Nat → Prop} {w : World} {b : Nat} {d : Dm} (n m : By) (h : DrIs M D w b d) (hn : n.length ≤ maxLen) (hm : m.length ≤ maxLen) (hl : d.seen.length + 1 < maxLen) (hq : (d.queue.length + 1) * 16 ≤ 140737488355328) :
    Calls Tryz.prog 75 #[.pointer (some ⟨b, 0, none⟩), .string ⟨n.toArray⟩, .string ⟨m.toArray⟩] w (RawPost M D w b d (.ren n m) (thE d n)) := by
  obtain ⟨ms, mv, q, hb, h1, h2, h3, h4⟩ := h.ex
  have HTH := Hid.mk' (there_any n hb h2 hn)
  have HR := Hid.mk' (raw_any (.ren n m) (.iface 169 (.agg #[.string ⟨n.toArray⟩, .string ⟨m.toArray⟩])) (thE d n) h ⟨rfl, hn, hm⟩ (fun _ _ => trivial) hl hq)
  generalize thE d n = t at *
  clear h h1 h2 h3 h4 hb hn hm hl hq
  go_enter Tryz.func75, Tryz.ntmps75
  go_wp2_with fail
  refine HTH.out.mono ?_
  rintro E w1 ⟨rfl, rfl⟩
  go_wp2_with fail
  refine HR.out.mono ?_
  rintro E w2 ⟨rfl, hT⟩
  have HT2 := Hid.mk' hT
  clear hT
  go_wp2_with fail
  go_ret
  exact ⟨rfl, HT2.out⟩
set_option maxRecDepth 100000 in
set_option maxHeartbeats 2000000 in
/-- drive.Remove -/
theorem remove_any {M D : Nat → Prop} {w : World} {b : Nat} {d : Dm} (n : By) (h : DrIs M D w b d) (hn : n.length ≤ maxLen) (hl : d.seen.length + 1 < maxLen) (hq : (d.queue.length + 1) * 16 ≤ 140737488355328) :
    Calls Tryz.prog 73 #[.pointer (some ⟨b, 0, none⟩), .string ⟨n.toArray⟩] w (RawPost M D w b d (.rem n) (thE d n)) := by
  obtain ⟨ms, mv, q, hb, h1, h2, h3, h4⟩ := h.ex
  have HTH := Hid.mk' (there_any n hb h2 hn)
  have HR := Hid.mk' (raw_any (.rem n) (.iface 167 (.agg #[.string ⟨n.toArray⟩])) (thE d n) h ⟨rfl, hn⟩ (fun _ _ => trivial) hl hq)
  generalize thE d n = t at *
  clear h h1 h2 h3 h4 hb hn hl hq
  go_enter Tryz.func73, Tryz.ntmps73
  go_wp2_with fail
  refine HTH.out.mono ?_
  rintro E w1 ⟨rfl, rfl⟩
  go_wp2_with fail
  refine HR.out.mono ?_
  rintro E w2 ⟨rfl, hT⟩
  have HT2 := Hid.mk' hT
  clear hT
  go_wp2_with fail
  go_ret
  exact ⟨rfl, HT2.out⟩
end Go.Proofs.YtbmhkdcmepfmbaaGreat
set_option linter.unusedVariables false
set_option linter.unusedSimpArgs false
namespace Go.Proofs.YtbmhkdcmepfmbaaGreat
open Go.RowKit
attribute [local go_sem ↓] Go.wp_at_zero Go.wp_at_succ
theorem filter_P {P : List UInt8 → Bool} {l : List (List UInt8)} (h : ∀ s ∈ l, P s = true) : l.filter P = l := List.filter_eq_self.2 h
def DelP (P : List UInt8 → Bool) (l l' : List (List UInt8)) (i j : Nat) : Prop := l'.length = l.length ∧ i < j ∧ j ≤ l.length ∧ l'.take i = (l.take j).filter P ∧ l'.drop j = l.drop j
theorem DelP.skip {P : List UInt8 → Bool} {l l' : List (List UInt8)} {i j : Nat} (h : DelP P l l' i j) (hj : j < l.length) (hp : P l[j] = false) : DelP P l l' i (j + 1) := by
  obtain ⟨h1, h2, h3, h4, h5⟩ := h
  refine ⟨h1, by omega, by omega, ?_, ?_⟩
  · rw [h4, List.take_succ_eq_append_getElem hj, List.filter_append]; simp [hp]
  · rw [← List.drop_drop, h5, List.drop_drop]
theorem DelP.put {P : List UInt8 → Bool} {l l' : List (List UInt8)} {i j : Nat} (h : DelP P l l' i j) (hj : j < l.length) (hp : P l[j] = true) : DelP P l (l'.set i l[j]) (i + 1) (j + 1) := by
  obtain ⟨h1, h2, h3, h4, h5⟩ := h
  refine ⟨by rw [List.length_set]; exact h1, by omega, by omega, ?_, ?_⟩
  · rw [List.take_succ_eq_append_getElem (by rw [List.length_set]; omega), List.take_set_of_le (Nat.le_refl _), h4, List.getElem_set_self, List.take_succ_eq_append_getElem hj, List.filter_append]; simp [hp]
  · rw [List.drop_set_of_lt (by omega), ← List.drop_drop, h5, List.drop_drop]
theorem DelP.get {P : List UInt8 → Bool} {l l' : List (List UInt8)} {i j : Nat} (h : DelP P l l' i j) (hj : j < l.length) : ∃ h' : j < l'.length, l'[j] = l[j] := by
  obtain ⟨h1, h2, h3, h4, h5⟩ := h
  have h' : j < l'.length := by omega
  refine ⟨h', ?_⟩
  have := congrArg (fun x => x[0]?) h5
  simp only [List.getElem?_drop, Nat.add_zero] at this
  rw [List.getElem?_eq_getElem h', List.getElem?_eq_getElem hj] at this
  exact Option.some.inj this
def hasB (l : List (List UInt8)) (s : List UInt8) : Bool := l.contains s
/-- slices.Index -/
theorem index_any {A : Nat → Prop} {w : World} {v : Value} {l : List (List UInt8)} (s : List UInt8) (h : Ss A w v l) : Calls Tryz.prog 94 #[v, .string ⟨s.toArray⟩] w fun e w' => (∃ k : Int, e = .returned (.int .i64 k) ∧ Hid (k = -1 ∧ hasB l s = false ∨ 0 ≤ k ∧ hasB l s = true)) ∧ w = w' := by
  obtain ⟨a, c, rfl, hc, _, H⟩ := h.at
  have H : Hid _ := H
  have hlim : l.length * 16 ≤ 140737488351232 := h.2
  have hl' : (l.length : Int) ≤ 140737488351232 := by omega
  clear h
  go_enter Tryz.func94, Tryz.ntmps94
  go_wp2_with fail
  go_loop [8] (fun i => ∃ k : Nat, k ≤ l.length ∧ i = .int .i64 k ∧ Hid ((l.take k).contains s = false)) (fun i => l.length - (intOf i).toNat)
  case atStart => exact ⟨0, by omega, rfl, rfl⟩
  case round =>
    obtain ⟨k, hk, rfl, HF⟩ := hrel
    by_cases hlt : k < l.length
    · have hlt' : (k : Int) < (l.length : Int) := by omega
      obtain ⟨b', o, rfl, _, hu⟩ := H.out k hlt
      have HT : Hid ((l.take (k + 1)).contains s = (s == l[k])) := by
        show _ = _
        have h1 := HF.out
        rw [List.take_succ_eq_append_getElem hlt]
        simp only [List.contains_eq_any_beq, List.any_append, List.any_cons, List.any_nil, Bool.or_false] at h1 ⊢
        rw [h1]; simp
      have HM : Hid ((s == l[k]) = true → hasB l s = true) := fun h1 => by
        unfold hasB
        rw [List.contains_iff_mem]
        have : s = l[k] := by simpa using h1
        rw [this]; exact List.getElem_mem hlt
      generalize l[k] = x at *
      cases hd : (s == x) with
      | true =>
        have HR : Hid ((k : Int) = -1 ∧ hasB l s = false ∨ 0 ≤ (k : Int) ∧ hasB l s = true) := .inr ⟨by omega, HM.out hd⟩
        go_wp2_with fail
        go_ret
        exact ⟨⟨_, rfl, HR⟩, rfl⟩
      | false =>
        have HT2 : Hid ((l.take (k + 1)).contains s = false) := by show _ = _; rw [HT.out, hd]
        go_wp2_with fail
        go_round
        case rel => exact ⟨k + 1, by omega, by go_num, HT2⟩
        case measure => simp [intOf]; omega
    · obtain rfl : k = l.length := by omega
      have HL2 : Hid (hasB l s = false) := by have := HF.out; rw [List.take_length] at this; exact this
      go_wp2_with fail
      go_ret
      exact ⟨⟨_, rfl, Hid.mk' (.inl ⟨rfl, HL2.out⟩)⟩, rfl⟩
/-- slices.Contains -/
theorem contains_any {A : Nat → Prop} {w : World} {v : Value} {l : List (List UInt8)} (s : List UInt8) (h : Ss A w v l) : Calls Tryz.prog 71 #[v, .string ⟨s.toArray⟩] w fun e w' => e = .returned (.bool (hasB l s)) ∧ w = w' := by
  have HI := Hid.mk' (index_any s h)
  obtain ⟨a, c, rfl, _⟩ := h.at
  clear h
  go_enter Tryz.func71, Tryz.ntmps71
  go_wp2_with fail
  refine HI.out.mono ?_
  rintro e w1 ⟨⟨k, rfl, HK⟩, rfl⟩
  rcases HK.out with ⟨rfl, hk⟩ | ⟨hk0, hk⟩
  · have HK2 := Hid.mk' hk
    clear HK hk HI
    go_wp2_with fail
    go_ret
    exact ⟨by rw [HK2.out]; rfl, rfl⟩
  · have HK2 := Hid.mk' hk
    clear HK hk HI
    go_wp2_with fail
    go_ret
    exact ⟨by rw [HK2.out]; rfl, rfl⟩
end Go.Proofs.YtbmhkdcmepfmbaaGreat
set_option linter.unusedVariables false
set_option linter.unusedSimpArgs false
namespace Go.Proofs.YtbmhkdcmepfmbaaGreat
open Go.RowKit
attribute [local go_sem ↓] Go.wp_at_zero Go.wp_at_succ
/-- deeds that can be done one behind the other -/
def Qok : Fl → List Dd → Prop
  | _, [] => True
  | F, x :: r => Dok F x ∧ Qok (ddo F x x.units) r
theorem QueueIs.elem {D : Nat → Prop} {w : World} {qa : Option Addr} {qc : Nat} {Q : List Dd} (h : QueueIs D w (.slice qa Q.length qc) Q) (k : Nat) (hk : k < Q.length) : ∃ qb qo v, qa = some ⟨qb, qo, none⟩ ∧ w.cell? ⟨qb, qo + k, none⟩ = some v ∧ DdIs D w v Q[k] := by
  obtain ⟨vs, hr, hel⟩ := h
  have hl : vs.length = Q.length := by have := hr.1; omega
  obtain ⟨_, a, c, e, _, _, H⟩ := hr
  cases e
  obtain ⟨b, o, ha, _, hc⟩ := H k (vs[k]'(by omega)) (by simp)
  exact ⟨b, o, _, ha, hc, hel k hk (by omega)⟩
theorem units_take (Q : List Dd) (k : Nat) (hk : k < Q.length) : units (Q.take (k + 1)) = units (Q.take k) + Q[k].units := by
  unfold units
  rw [List.take_succ_eq_append_getElem hk, List.map_append, List.sum_append]
  simp only [List.map_cons, List.map_nil, List.sum_cons, List.sum_nil, Nat.add_zero]
theorem units_take_le (Q : List Dd) (k : Nat) : units (Q.take k) ≤ units Q := by
  have : units Q = units (Q.take k) + units (Q.drop k) := by
    unfold units
    rw [← List.sum_append, ← List.map_append, List.take_append_drop]
  omega
theorem after_zero (F : Fl) (q : List Dd) : after F q 0 = F := by
  cases q with
  | nil => rfl
  | cons x r => simp [after]
theorem after_nil (F : Fl) (j : Nat) : after F [] j = F := rfl
theorem after_step (F : Fl) (Q : List Dd) (i j : Nat) (hi : i < Q.length) (hj : 0 < j) : after F (Q.drop i) j = after (ddo F Q[i] (min j Q[i].units)) (Q.drop (i + 1)) (j - min j Q[i].units) := by
  rw [List.drop_eq_getElem_cons hi, after, if_neg (by have := Q[i].pos; omega)]
theorem ddo_len (F : Fl) (hF : Srt F) (x : Dd) (k : Nat) : (ddo F x k).length ≤ F.length + 1 := by
  cases x with
  | write n i l => simp only [ddo]; rw [len_put F hF]; split <;> omega
  | trim n sz => simp only [ddo]; rw [len_put F hF]; split <;> omega
  | ren a b => simp only [ddo]; rw [len_put _ (hF.del _), len_del]; split <;> split <;> omega
  | rem n => simp only [ddo]; rw [len_del]; split <;> omega
/-- within the second loop -/
structure Cs (w : World) (D0 : Nat → Prop) (b kf : Nat) (F0 : Fl) (Q : List Dd) (K : Nat) (i j : Nat) (D : Nat → Prop) (F : Fl) (wr : World) : Prop where
  bl : Below w.heap.size w wr
  fi : FI D wr kf F
  up : ∀ k, D0 k → D k
  dn : ∀ k, D k → k < wr.heap.size ∧ k ≠ kf ∧ (D0 k ∨ w.heap.size ≤ k)
  af : after F (Q.drop i) j = after F0 Q K
  qo : Qok F (Q.drop i) ∨ j = 0
  ln : F.length ≤ F0.length + i
  kw : w.heap.size ≤ kf
theorem Cs.up' {w wr w2 : World} {D0 D : Nat → Prop} {b kf K i j : Nat} {F0 F : Fl} {Q : List Dd} (h : Cs w D0 b kf F0 Q K i j D F wr) (hb : Below wr.heap.size wr w2) : Cs w D0 b kf F0 Q K i j D F w2 :=
  ⟨h.bl.trans (hb.mono h.bl.size), h.fi.wb (Wb.of_below (fun _ => False) hb) (fun _ h => h.elim) id, h.up, fun k hk => ⟨Nat.lt_of_lt_of_le (h.dn k hk).1 hb.size, (h.dn k hk).2⟩, h.af, h.qo, h.ln, h.kw⟩
theorem Cs.step {w wr w2 : World} {D0 D : Nat → Prop} {b kf K i j m : Nat} {F0 F F' : Fl} {Q : List Dd} {e : Ending} (h : Cs w D0 b kf F0 Q K i j D F wr) (hi : i < Q.length) (hj : 0 < j) (hm : m = min j Q[i].units) (hF : F' = ddo F Q[i] m) (hp : DoPost D wr kf F' e w2) : ∃ D', Cs w D0 b kf F0 Q K (i + 1) (j - m) D' F' w2 := by
  obtain ⟨_, hw, D', h1, h2, h3⟩ := hp
  have hkl := h.fi.lt
  refine ⟨D', h.bl.trans (hw.below h.bl.size fun k hk => by subst hk; exact h.kw), h3, fun k hk => h1 k (h.up k hk), fun k hk => ?_, ?_, ?_, ?_, h.kw⟩
  · rcases h2 k hk with hd | ⟨hd1, hd2⟩
    · exact ⟨Nat.lt_of_lt_of_le (h.dn k hd).1 hw.size, (h.dn k hd).2⟩
    · exact ⟨hd2, by omega, .inr (Nat.le_trans h.bl.size hd1)⟩
  · rw [← h.af, after_step F Q i j hi hj, hF, hm]
  · rcases h.qo with hq | hq
    · by_cases hx : j ≤ Q[i].units
      · right; omega
      · left
        rw [List.drop_eq_getElem_cons hi] at hq
        have : m = Q[i].units := by omega
        rw [hF, this]; exact hq.2
    · omega
  · have := ddo_len F h.fi.1 Q[i] m
    have h4 := h.ln
    rw [hF]; omega
theorem Cs.ok {w wr : World} {D0 D : Nat → Prop} {b kf K i j : Nat} {F0 F : Fl} {Q : List Dd} (h : Cs w D0 b kf F0 Q K i j D F wr) (hi : i < Q.length) (hj : 0 < j) : Dok F Q[i] := by
  rcases h.qo with hq | hq
  · rw [List.drop_eq_getElem_cons hi] at hq
    exact hq.1
  · omega
theorem rem_run {U : Nat} (keep : Int) : -((U : Int) + 1) < keep.tmod ((U : Int) + 1) ∧ keep.tmod ((U : Int) + 1) < (U : Int) + 1 ∧ ((keep % ((U : Int) + 1)).toNat : Int) = if keep.tmod ((U : Int) + 1) < 0 then keep.tmod ((U : Int) + 1) + ((U : Int) + 1) else keep.tmod ((U : Int) + 1) := by
  have hn : (0 : Int) < (U : Int) + 1 := by omega
  have h1 := Int.lt_tmod_of_pos keep hn
  have h2 := Int.tmod_lt_of_pos keep hn
  refine ⟨h1, h2, ?_⟩
  have e : keep % ((U : Int) + 1) = keep.tmod ((U : Int) + 1) % ((U : Int) + 1) := by
    conv => lhs; rw [← Int.mul_tdiv_add_tmod keep ((U : Int) + 1)]
    rw [Int.mul_add_emod_self_left]
  rw [e]
  generalize keep.tmod ((U : Int) + 1) = R at *
  rw [Int.toNat_of_nonneg (Int.emod_nonneg _ (by omega))]
  split
  · rw [← Int.add_emod_right]
    exact Int.emod_eq_of_lt (by omega) (by omega)
  · exact Int.emod_eq_of_lt (by omega) (by omega)
theorem Cs.first {w wx : World} {D0 : Nat → Prop} {b kf K : Nat} {F0 : Fl} {Q : List Dd} (hb : Below w.heap.size w wx) (hf : FI D0 wx kf F0) (hk : w.heap.size ≤ kf) (hD : ∀ k, D0 k → k < w.heap.size) (hQ : Qok F0 Q) : Cs w D0 b kf F0 Q K 0 K D0 F0 wx :=
  ⟨hb, hf, fun _ h => h, fun k hk' => ⟨Nat.lt_of_lt_of_le (hD k hk') hb.size, by have := hD k hk'; omega, .inl hk'⟩, rfl, .inl hQ, by omega, hk⟩
theorem Cs.fin0 {w wr : World} {D0 D : Nat → Prop} {b kf K i : Nat} {F0 F : Fl} {Q : List Dd} (h : Cs w D0 b kf F0 Q K i 0 D F wr) : ∃ D i j, Cs w D0 b kf F0 Q K i j D (after F0 Q K) wr := by
  have e : F = after F0 Q K := by have := h.af; rwa [after_zero] at this
  rw [← e]
  exact ⟨D, i, 0, h.bl, h.fi, h.up, h.dn, by rw [after_zero]; exact e, .inr rfl, h.ln, h.kw⟩
theorem Cs.finn {w wr : World} {D0 D : Nat → Prop} {b kf K j : Nat} {F0 F : Fl} {Q : List Dd} (h : Cs w D0 b kf F0 Q K Q.length j D F wr) : ∃ D i j, Cs w D0 b kf F0 Q K i j D (after F0 Q K) wr := by
  have e : F = after F0 Q K := by have := h.af; rwa [List.drop_length, after_nil] at this
  exact ⟨D, Q.length, 0, h.bl, by rw [← e]; exact h.fi, h.up, h.dn, by rw [after_zero], .inr rfl, by rw [← e]; exact h.ln, h.kw⟩
theorem Cs.done {M D0 D : Nat → Prop} {w we w2 : World} {b kf K i j : Nat} {d : Dm} {keep : Int} {ms mv : Option Nat} {q : Value} (h : DrIs M D0 w b d) (hb : w.heap[b]? = some (.cells #[.map ms, .map mv, q, .int .i64 d.room, .bool d.armed, .int .i64 d.left, .bool d.dead] 74 (0, 0)))
    (hc : Cs w D0 b kf d.safe d.queue K i j D (after d.safe d.queue K) we) (hb2 : Below we.heap.size we w2) (hf2 : FI D w2 we.heap.size (after d.safe d.queue K))
    (hK : crD d keep = { safe := after d.safe d.queue K, seen := after d.safe d.queue K, queue := [], room := d.room, armed := false, left := 0, dead := false }) :
    Turned M D0 w b (crD d keep) ((((((w2.setCell ⟨b, 0, none⟩ (.map (some kf))).setCell ⟨b, 1, none⟩ (.map (some we.heap.size))).setCell ⟨b, 2, none⟩ (.slice none 0 0)).setCell ⟨b, 6, none⟩ (.bool false)).setCell ⟨b, 4, none⟩ (.bool false)).setCell ⟨b, 5, none⟩ (.int .i64 0)) := by
  rw [hK]
  have hbl : b < w.heap.size := (Array.getElem?_eq_some_iff.1 hb).1
  have hw2 : Below w.heap.size w w2 := hc.bl.trans (hb2.mono hc.bl.size)
  have hs1 := hc.bl.size
  have hs2 := hb2.size
  have hkl := hc.fi.lt
  have hl2 := hf2.lt
  have hkw := hc.kw
  have hbx : w2.heap[b]? = some (.cells #[.map ms, .map mv, q, .int .i64 d.room, .bool d.armed, .int .i64 d.left, .bool d.dead] 74 (0, 0)) := by rw [hw2.block b hbl]; exact hb
  have hw3 : Wb (fun k => k = b) w2 ((((((w2.setCell ⟨b, 0, none⟩ (.map (some kf))).setCell ⟨b, 1, none⟩ (.map (some we.heap.size))).setCell ⟨b, 2, none⟩ (.slice none 0 0)).setCell ⟨b, 6, none⟩ (.bool false)).setCell ⟨b, 4, none⟩ (.bool false)).setCell ⟨b, 5, none⟩ (.int .i64 0)) :=
    (((((Wb.set (X := fun k => k = b) _ _ _ _ rfl).trans (Wb.set _ _ _ _ rfl)).trans (Wb.set _ _ _ _ rfl)).trans (Wb.set _ _ _ _ rfl)).trans (Wb.set _ _ _ _ rfl)).trans (Wb.set _ _ _ _ rfl)
  refine ⟨((Wb.of_below (fun k => k = b) hw2).trans hw3).mono fun k hk => .inl hk, fun k => k = kf ∨ k = we.heap.size, D, fun k hk => .inr (by rcases hk with rfl | rfl <;> omega), fun k hk => (hc.dn k hk).2.2, ?_⟩
  refine DrIs.boxed (ms := some kf) (mv := some we.heap.size) (q := .slice none 0 0) hw3 (by rw [box7_set (box7_set (box7_set (box7_set (box7_set (box7_set hbx _) _) _) _) _)]; rfl) (.inr ⟨kf, rfl, .inl rfl, hc.fi.wb (Wb.of_below (fun _ => False) hb2) (fun _ h => h.elim) id⟩) (.inr ⟨_, rfl, .inr rfl, hf2⟩) (QueueIs.nil _ _) (fun k hk e => by cases hk; cases e; omega) (fun k hk => ?_) (fun k hk => ?_) (fun h => by cases h)
  · have h1 := hc.dn k hk
    refine ⟨by omega, fun hm => ?_, ?_⟩
    · rcases hm with hm | hm
      · exact h1.2.1 hm
      · omega
    · rcases h1.2.2 with h2 | h2
      · exact (h.hD k h2).2.2
      · omega
  · rcases hk with rfl | rfl
    · exact ⟨by omega, by omega⟩
    · exact ⟨hl2, by omega⟩
set_option maxRecDepth 100000 in
set_option maxHeartbeats 8000000 in
/-- drive.Crash -/
theorem crash_any {M D : Nat → Prop} {w : World} {b : Nat} {d : Dm} (keep : Int) (h : DrIs M D w b d) (hQ : Qok d.safe d.queue) (hl : d.safe.length + d.queue.length < maxLen) (hu : (units d.queue : Int) + 1 ≤ 4611686018427387904) (hk1 : -9223372036854775808 ≤ keep) (hk2 : keep ≤ 9223372036854775807) (hql : d.queue.length * 16 ≤ 140737488355328) :
    Calls Tryz.prog 28 #[.pointer (some ⟨b, 0, none⟩), .int .i64 keep] w fun E w' => E = .returned (.tuple #[]) ∧ Turned M D w b (crD d keep) w' := by
  obtain ⟨ms, mv, q, hb, h1, h2, h3, h4⟩ := h.ex
  obtain ⟨⟨c0, c1, c2, c3, c4, c5, c6⟩, c7⟩ := box7 hb
  obtain ⟨qa, qc, rfl⟩ : ∃ qa qc, q = .slice qa d.queue.length qc := by obtain ⟨vs, hr, _⟩ := h3; obtain ⟨_, a, c, e, _⟩ := hr; exact ⟨a, c, e⟩
  have hbl : b < w.heap.size := (Array.getElem?_eq_some_iff.1 hb).1
  have HB := Hid.mk' hb
  have HH := Hid.mk' h
  have H1 := Hid.mk' h1
  have HEL := Hid.mk' (fun k hk => h3.elem k hk)
  have HQ := Hid.mk' hQ
  have HL := Hid.mk' hl
  have hn : (d.queue.length : Int) ≤ 140737488355328 := by omega
  have HUL := Hid.mk' (units_take_le d.queue)
  have HUT := Hid.mk' (units_take d.queue)
  clear h h1 h2 h3 h4 hb hQ hl c0 c1 c3 c4 c5 c6 c7 hql
  have hmm := @run_makeMap Tryz.prog
  have hmn := fun w r => run_eql_map_nil (P := Tryz.prog) w 71 9 22 r Tryz.underlying71
  go_enter Tryz.func28, Tryz.ntmps28
  go_wp2_with fail
  go_loopw [4, 16] (fun a i wr => ∃ k : Nat, k ≤ d.queue.length ∧ i = .int .i64 k ∧ a = .int .i64 ((units (d.queue.take k) : Int) + 1) ∧ Hid (Below w.heap.size w wr)) (fun _ i _ => d.queue.length - (intOf i).toNat)
  case atStart => exact ⟨0, by omega, rfl, rfl, Below.refl _ _⟩
  case round =>
    obtain ⟨k, hk, rfl, rfl, HW⟩ := hrel
    by_cases hlt : k < d.queue.length
    · have hlt' : (k : Int) < (d.queue.length : Int) := by omega
      obtain ⟨qb, qo, v, rfl, hc, hx⟩ := HEL.out k hlt
      have hc2 : wr.cell? ⟨qb, qo + k, none⟩ = some v := (HW.out.cell (p := ⟨qb, qo + k, none⟩) (World.block_lt_of_cell? w ⟨qb, qo + k, none⟩ hc)).trans hc
      have hut := HUT.out k hlt
      have hle := HUL.out (k + 1)
      rw [hut] at hle
      have hu0 : (0 : Int) ≤ (units (d.queue.take k) : Int) := by omega
      have hu1 : (units (d.queue.take k) : Int) + (d.queue[k].units : Int) ≤ 4611686018427387903 := by omega
      have HUT2 : Hid ((units (d.queue.take (k + 1)) : Int) = (units (d.queue.take k) : Int) + (d.queue[k].units : Int)) := by show _ = _; omega
      generalize d.queue[k] = x at *
      generalize units (d.queue.take k) = U at *
      have HX := Hid.mk' hx
      clear hut hle hx hc
      cases x with
      | write n i l =>
        obtain ⟨u, rfl, hu3, hnl⟩ := HX.out
        have HU3 := Hid.mk' hu3
        clear hu3
        have hub : (U : Int) + ((l.length : Int) + 1) ≤ 4611686018427387903 := by simp only [Dd.units] at hu1; omega
        go_wp2_with fail
        refine (un_write n i u l wr (HU3.out.wb (Wb.of_below (fun _ => False) HW.out) (fun _ h => h.elim))).mono ?_
        rintro E w1 ⟨rfl, hb1⟩
        have HW2 := Hid.mk' (HW.out.trans (hb1.mono HW.out.size))
        clear hb1
        go_wp2_with fail
        go_roundw
        case rel => exact ⟨k + 1, by omega, by go_num, by rw [HUT2.out]; simp only [Dd.units]; go_num, HW2⟩
        case measure => simp [intOf]; omega
      | trim n z => exact (show False from HX.out).elim
      | ren n m =>
        obtain ⟨rfl, hnl, hml⟩ := HX.out
        have hub : (U : Int) + 1 ≤ 4611686018427387903 := by simp only [Dd.units] at hu1; omega
        go_wp2_with fail
        refine (un_ren n m wr).mono ?_
        rintro E w1 ⟨rfl, hb1⟩
        have HW2 := Hid.mk' (HW.out.trans (hb1.mono HW.out.size))
        clear hb1
        go_wp2_with fail
        go_roundw
        case rel => exact ⟨k + 1, by omega, by go_num, by rw [HUT2.out]; simp only [Dd.units]; go_num, HW2⟩
        case measure => simp [intOf]; omega
      | rem n =>
        obtain ⟨rfl, hnl⟩ := HX.out
        have hub : (U : Int) + 1 ≤ 4611686018427387903 := by simp only [Dd.units] at hu1; omega
        go_wp2_with fail
        refine (un_rem n wr).mono ?_
        rintro E w1 ⟨rfl, hb1⟩
        have HW2 := Hid.mk' (HW.out.trans (hb1.mono HW.out.size))
        clear hb1
        go_wp2_with fail
        go_roundw
        case rel => exact ⟨k + 1, by omega, by go_num, by rw [HUT2.out]; simp only [Dd.units]; go_num, HW2⟩
        case measure => simp [intOf]; omega
    · obtain rfl : k = d.queue.length := by omega
      have hlt' : ¬ ((d.queue.length : Int) < (d.queue.length : Int)) := by omega
      rw [List.take_length]
      obtain ⟨U, hUU⟩ : ∃ U : Nat, U = units d.queue := ⟨_, rfl⟩
      rw [← hUU] at hu ⊢
      have HUU := Hid.mk' hUU
      clear hUU
      have hu0 : (1 : Int) ≤ (U : Int) + 1 := by omega
      obtain ⟨hR1, hR2, hRK⟩ := rem_run (U := U) keep
      obtain ⟨K, hK⟩ : ∃ K : Nat, K = (keep % ((U : Int) + 1)).toNat := ⟨_, rfl⟩
      rw [← hK] at hRK
      have HK : Hid (crD d keep = { safe := after d.safe d.queue K, seen := after d.safe d.queue K, queue := [], room := d.room, armed := false, left := 0, dead := false }) := by
        show _ = _
        unfold crD crK; rw [← HUU.out, ← hK]
      clear hK hk1 hk2
      go_upto_if 29 with fail
      generalize keep.tmod ((U : Int) + 1) = R at *
      go_cut [1] (fun u wx => u = .int .i64 (K : Int) ∧ Hid (Below w.heap.size w wx))
      case first =>
        by_cases hneg : R < 0
        · rw [if_pos hneg] at hRK
          have HRK2 := Hid.mk' hRK
          have hx1 : 0 ≤ R + ((U : Int) + 1) := by omega
          have hx2 : R + ((U : Int) + 1) ≤ 9223372036854775807 := by omega
          clear hRK hR1 hR2 hu hu0
          go_wp2_with fail
          go_meet
          exact ⟨by rw [HRK2.out], HW⟩
        · have hneg' : 0 ≤ R := by omega
          clear hneg
          rw [if_neg (by omega)] at hRK
          have HRK2 := Hid.mk' hRK
          clear hRK hR1 hR2 hu hu0
          go_wp2_with fail
          go_meet
          exact ⟨by rw [HRK2.out], HW⟩
      case rest =>
        obtain ⟨rfl, HWc⟩ := hcut
        have hKb : (K : Int) ≤ 4611686018427387904 := by rw [hRK]; split <;> omega
        clear HW hRK hR1 hR2 hu hu0
        rename World => wc
        have hbc : wc.heap[b]? = w.heap[b]? := HWc.out.block b hbl
        rw [HB.out] at hbc
        obtain ⟨⟨z0, z1, z2, z3, z4, z5, z6⟩, z7⟩ := box7 hbc
        clear c2 hbc z1 z3 z4 z5 z6
        have HDL := Hid.mk' (fun k hk => (HH.out.hD k hk).1)
        go_wp2_with fail
        refine (FilesIs.cloned (H1.out.wb (Wb.of_below (fun _ => False) HWc.out) (fun _ h => h.elim) (fun _ _ h => h))).mono ?_
        rintro E w1 ⟨m1, rfl, hba, hf1, hk1⟩
        have HBA := Hid.mk' (HWc.out.trans (hba.mono HWc.out.size))
        have HF1 := Hid.mk' hf1
        have HK1 := Hid.mk' hk1
        clear hba hf1 hk1
        go_upto_if 39 with fail
        go_cut [7] (fun u wx => ∃ kf, u = .map (some kf) ∧ Hid (Cs w D b kf d.safe d.queue K 0 K D d.safe wx))
        case first =>
          cases m1 with
          | none =>
            have HC : Hid (Cs w D b w1.heap.size d.safe d.queue K 0 K D d.safe (w1.alloc (.map #[] 0))) := by
              have e : d.safe = [] := by
                rcases HF1.out with ⟨_, e⟩ | ⟨k, e, _⟩
                · exact e
                · cases e
              refine Cs.first (HBA.out.trans ((up_alloc _ _).mono HBA.out.size)) ?_ HBA.out.size HDL.out HQ.out
              rw [e]
              exact ⟨Srt.nil, (fun _ => none), MapF.made Tryz.prog 9 w1, fun s => .inl ⟨rfl, rfl⟩⟩
            go_wp2_with fail
            go_meet
            exact ⟨_, rfl, HC⟩
          | some kf =>
            have HC : Hid (Cs w D b kf d.safe d.queue K 0 K D d.safe w1) := by
              obtain ⟨k', e, _, hF⟩ : ∃ k, some kf = some k ∧ k = wc.heap.size ∧ FI D w1 k d.safe := by
                rcases HF1.out with ⟨e, _⟩ | h
                · cases e
                · exact h
              cases e
              exact Cs.first HBA.out hF (by rw [HK1.out _ rfl]; exact HWc.out.size) HDL.out HQ.out
            go_wp2_with fail
            go_meet
            exact ⟨_, rfl, HC⟩
        case rest =>
          obtain ⟨kf, rfl, HC⟩ := hcut
          clear HBA HF1 HK1 z0 z2 z7 HWc
          rename World => wd
          have hbd : wd.heap[b]? = w.heap[b]? := HC.out.bl.block b hbl
          rw [HB.out] at hbd
          obtain ⟨⟨z0, z1, z2, z3, z4, z5, z6⟩, z7⟩ := box7 hbd
          clear hbd z0 z1 z3 z4 z5 z6 z7
          go_upto_block 2 with fail
          go_cut [1] (fun _ wx => ∃ D' i j, Hid (Cs w D b kf d.safe d.queue K i j D' (after d.safe d.queue K) wx))
          case first =>
            go_wp2_with fail
            go_loopw [1, 46] (fun u i wr => ∃ (k j : Nat) (D' : Nat → Prop) (F : Fl), k ≤ d.queue.length ∧ i = .int .i64 k ∧ u = .int .i64 j ∧ (j : Int) ≤ 4611686018427387904 ∧ Hid (Cs w D b kf d.safe d.queue K k j D' F wr)) (fun _ i _ => d.queue.length - (intOf i).toNat)
            case atStart => exact ⟨0, K, D, d.safe, by omega, rfl, rfl, hKb, HC⟩
            case round =>
              clear HC hKb z2
              obtain ⟨k, j, D', F, hk, rfl, rfl, hj, HC⟩ := hrel
              by_cases hlt : k < d.queue.length
              · have hlt' : (k : Int) < (d.queue.length : Int) := by omega
                obtain ⟨qb, qo, v, rfl, hc, hx⟩ := HEL.out k hlt
                have hc2 : wr.cell? ⟨qb, qo + k, none⟩ = some v := (HC.out.bl.cell (p := ⟨qb, qo + k, none⟩) (World.block_lt_of_cell? w ⟨qb, qo + k, none⟩ hc)).trans hc
                have HLN : Hid (F.length < maxLen) := by have h1 := HC.out.ln; have h2 := HL.out; show _ < _; omega
                have HOK := Hid.mk' (fun hjp : 0 < j => HC.out.ok hlt hjp)
                obtain ⟨x, hxe⟩ : ∃ x, d.queue[k] = x := ⟨_, rfl⟩
                rw [hxe] at hx
                have HXE := Hid.mk' hxe
                have HX := Hid.mk' hx
                clear hx hc hxe
                cases x with
                  | write n i l =>
                    obtain ⟨u, rfl, hu3, hnl⟩ := HX.out
                    have HU3 := Hid.mk' hu3
                    clear hu3
                    rcases Nat.eq_zero_or_pos j with rfl | hjp
                    · go_wp2_with fail
                      refine (un_write n i u l wr (HU3.out.wb (Wb.of_below (fun _ => False) HC.out.bl) (fun _ h => h.elim))).mono ?_
                      rintro E w1 ⟨rfl, hb1⟩
                      have HC2 := Hid.mk' (HC.out.up' hb1)
                      clear hb1
                      go_wp2_with fail
                      go_meet
                      exact HC2.out.fin0
                    · have hj1 : (1 : Int) ≤ (j : Int) := by omega
                      have hll : (l.length : Int) ≤ 140737488351232 := by have := HU3.out.2; unfold lim at this; omega
                      by_cases hjl : (j : Int) ≤ (l.length : Int) + 1
                      · go_wp2_with fail
                        refine (un_write n i u l wr (HU3.out.wb (Wb.of_below (fun _ => False) HC.out.bl) (fun _ h => h.elim))).mono ?_
                        rintro E w1 ⟨rfl, hb1⟩
                        have HC2 := Hid.mk' (HC.out.up' hb1)
                        clear hb1
                        go_wp2_with fail
                        refine (do_write n l i (j - 1) u _ HC2.out.fi hnl (fun hd => (HC2.out.dn _ hd).2.1 rfl) ((HU3.out.wb (Wb.of_below (fun _ => False) HC2.out.bl) (fun _ h => h.elim)).monoS HC2.out.up) (by omega) (by omega) (by have := HOK.out hjp; rw [HXE.out] at this; exact this.1) (by have := HOK.out hjp; rw [HXE.out] at this; have := this.2.2; omega) HLN.out).mono ?_
                        rintro E w2 hp
                        obtain ⟨D2, hs⟩ := HC2.out.step hlt hjp (m := j) (by rw [HXE.out]; simp only [Dd.units]; omega) (by rw [HXE.out]; rfl) hp
                        cases hp.1
                        have HC3 := Hid.mk' hs
                        clear hs hp
                        go_wp2_with fail
                        go_roundw
                        case rel => exact ⟨k + 1, j - j, D2, _, by omega, by go_num, by go_num, by omega, HC3⟩
                        case measure => simp [intOf]; omega
                      · have hjl' : (l.length : Int) + 1 < (j : Int) := by omega
                        clear hjl
                        go_wp2_with fail
                        refine (un_write n i u l wr (HU3.out.wb (Wb.of_below (fun _ => False) HC.out.bl) (fun _ h => h.elim))).mono ?_
                        rintro E w1 ⟨rfl, hb1⟩
                        have HC2 := Hid.mk' (HC.out.up' hb1)
                        clear hb1
                        go_wp2_with fail
                        refine (do_write n l i l.length u _ HC2.out.fi hnl (fun hd => (HC2.out.dn _ hd).2.1 rfl) ((HU3.out.wb (Wb.of_below (fun _ => False) HC2.out.bl) (fun _ h => h.elim)).monoS HC2.out.up) (Nat.le_refl l.length) (by omega) (by have := HOK.out hjp; rw [HXE.out] at this; exact this.1) (by have := HOK.out hjp; rw [HXE.out] at this; exact this.2.2) HLN.out).mono ?_
                        rintro E w2 hp
                        obtain ⟨D2, hs⟩ := HC2.out.step hlt hjp (m := (l.length + 1)) (by rw [HXE.out]; simp only [Dd.units]; omega) (by rw [HXE.out]; rfl) hp
                        cases hp.1
                        have HC3 := Hid.mk' hs
                        clear hs hp
                        go_wp2_with fail
                        go_roundw
                        case rel => exact ⟨k + 1, j - (l.length + 1), D2, _, by omega, by go_num, by go_num, by omega, HC3⟩
                        case measure => simp [intOf]; omega
                  | trim n z => exact (show False from HX.out).elim
                  | ren n m =>
                    obtain ⟨rfl, hnl, hml⟩ := HX.out
                    rcases Nat.eq_zero_or_pos j with rfl | hjp
                    · go_wp2_with fail
                      refine (un_ren n m wr).mono ?_
                      rintro E w1 ⟨rfl, hb1⟩
                      have HC2 := Hid.mk' (HC.out.up' hb1)
                      clear hb1
                      go_wp2_with fail
                      go_meet
                      exact HC2.out.fin0
                    · have hj1 : (1 : Int) ≤ (j : Int) := by omega
                      go_wp2_with fail
                      refine (un_ren n m wr).mono ?_
                      rintro E w1 ⟨rfl, hb1⟩
                      have HC2 := Hid.mk' (HC.out.up' hb1)
                      clear hb1
                      go_wp2_with fail
                      refine (do_ren n m _ HC2.out.fi hnl hml (fun hd => (HC2.out.dn _ hd).2.1 rfl) HLN.out).mono ?_
                      rintro E w2 hp
                      obtain ⟨D2, hs⟩ := HC2.out.step hlt hjp (m := 1) (by rw [HXE.out]; simp only [Dd.units]; omega) (by rw [HXE.out]; rfl) hp
                      cases hp.1
                      have HC3 := Hid.mk' hs
                      clear hs hp
                      go_wp2_with fail
                      go_roundw
                      case rel => exact ⟨k + 1, j - 1, D2, _, by omega, by go_num, by go_num, by omega, HC3⟩
                      case measure => simp [intOf]; omega
                  | rem n =>
                    obtain ⟨rfl, hnl⟩ := HX.out
                    rcases Nat.eq_zero_or_pos j with rfl | hjp
                    · go_wp2_with fail
                      refine (un_rem n wr).mono ?_
                      rintro E w1 ⟨rfl, hb1⟩
                      have HC2 := Hid.mk' (HC.out.up' hb1)
                      clear hb1
                      go_wp2_with fail
                      go_meet
                      exact HC2.out.fin0
                    · have hj1 : (1 : Int) ≤ (j : Int) := by omega
                      go_wp2_with fail
                      refine (un_rem n wr).mono ?_
                      rintro E w1 ⟨rfl, hb1⟩
                      have HC2 := Hid.mk' (HC.out.up' hb1)
                      clear hb1
                      go_wp2_with fail
                      refine (do_rem n _ HC2.out.fi hnl (fun hd => (HC2.out.dn _ hd).2.1 rfl)).mono ?_
                      rintro E w2 hp
                      obtain ⟨D2, hs⟩ := HC2.out.step hlt hjp (m := 1) (by rw [HXE.out]; simp only [Dd.units]; omega) (by rw [HXE.out]; rfl) hp
                      cases hp.1
                      have HC3 := Hid.mk' hs
                      clear hs hp
                      go_wp2_with fail
                      go_roundw
                      case rel => exact ⟨k + 1, j - 1, D2, _, by omega, by go_num, by go_num, by omega, HC3⟩
                      case measure => simp [intOf]; omega
              · obtain rfl : k = d.queue.length := by omega
                have hlt' : ¬ ((d.queue.length : Int) < (d.queue.length : Int)) := by omega
                go_wp2_with fail
                go_meet
                exact HC.out.finn
          case rest =>
            obtain ⟨D', i, j, HC2⟩ := hcut
            clear HC z2
            go_wp2_with fail
            refine (FI.cloned HC2.out.fi).mono ?_
            rintro E w2 ⟨rfl, hb2, hf2⟩
            have HT := Hid.mk' (HC2.out.done HH.out HB.out hb2 hf2 HK.out)
            have hbe : w2.heap[b]? = w.heap[b]? := (HC2.out.bl.trans (hb2.mono HC2.out.bl.size)).block b hbl
            rw [HB.out] at hbe
            obtain ⟨⟨z0, z1, z2, z3, z4, z5, z6⟩, z7⟩ := box7 hbe
            clear hbe hb2 hf2
            go_wp2_with fail
            go_end0
            exact ⟨rfl, HT.out⟩
end Go.Proofs.YtbmhkdcmepfmbaaGreat
set_option linter.unusedVariables false
set_option linter.unusedSimpArgs false
namespace Go.Proofs.YtbmhkdcmepfmbaaGreat
open Go.RowKit
attribute [local go_sem ↓] Go.wp_at_zero Go.wp_at_succ
theorem tot_ddo {F : Fl} (hF : Srt F) (x : Dd) (k : Nat) : tot (ddo F x k) ≤ match x with | .write n i l => tot F + (max (foz F n).length (i + l.length) - (foz F n).length) | _ => tot F := by
  cases x with
  | write n i l =>
    have := tot_put F hF n (wrt (foz F n) i (l.take (k - 1)))
    rw [wrt_len, List.length_take] at this
    simp only [ddo]
    omega
  | trim n sz =>
    have := tot_put F hF n ((foz F n).take sz)
    rw [List.length_take] at this
    simp only [ddo]
    omega
  | ren a b =>
    have h1 := tot_put (fdel F a) (hF.del a) b (foz F a)
    have h2 := tot_del F a
    simp only [ddo]
    omega
  | rem n => have := tot_del F n; simp only [ddo]; omega
theorem Turned.refl {M D : Nat → Prop} {w : World} {b : Nat} {d : Dm} (h : DrIs M D w b d) : Turned M D w b d w := ⟨Wb.refl _ _, M, D, fun _ h => .inl h, fun _ h => .inl h, h⟩
theorem Turned.up {M D : Nat → Prop} {w w1 w2 : World} {b : Nat} {d : Dm} (h : Turned M D w b d w1) (hb : Below w1.heap.size w1 w2) : Turned M D w b d w2 := by
  obtain ⟨h1, M1, D1, h2, h3, h4⟩ := h
  exact ⟨h1.trans (Wb.of_below _ hb), M1, D1, h2, h3, h4.below hb⟩
theorem Turned.trans {M D M1 D1 : Nat → Prop} {w w1 w2 : World} {b : Nat} {d2 : Dm} (hw : Wb (fun k => k = b ∨ M k) w w1) (h2 : ∀ k, M1 k → M k ∨ w.heap.size ≤ k) (h3 : ∀ k, D1 k → D k ∨ w.heap.size ≤ k) (hT : Turned M1 D1 w1 b d2 w2) : Turned M D w b d2 w2 := by
  obtain ⟨g1, M2, D2, g2, g3, g4⟩ := hT
  have hs := hw.size
  refine ⟨⟨g1.os.trans hw.os, g1.tape.trans hw.tape, g1.output.trans hw.output, Nat.le_trans hs g1.size, fun k hk hx => ?_⟩, M2, D2, fun k hk => ?_, fun k hk => ?_, g4⟩
  · rw [g1.block k (Nat.lt_of_lt_of_le hk hs) (fun h => h.elim (fun e => hx (.inl e)) fun hm => (h2 k hm).elim (fun h => hx (.inr h)) fun h => by omega)]
    exact hw.block k hk hx
  · rcases g2 k hk with h | h
    · exact h2 k h
    · exact .inr (Nat.le_trans hs h)
  · rcases g3 k hk with h | h
    · exact h3 k h
    · exact .inr (Nat.le_trans hs h)
/-- the name that a file has while it is written -/
def frs (n : By) : By := n ++ [126]
def rp1 (d : Dm) (n : By) : Int × Dm := if (fget d.seen (frs n)).isSome then (rawE d (thE d (frs n)), rawD d (.rem (frs n)) (thE d (frs n))) else (0, d)
def rp2 (d : Dm) (n b : By) : Int × Dm := (rawE d (wrE d (frs n) ((foz d.seen (frs n)).length : Int) b.length), rawD d (.write (frs n) (foz d.seen (frs n)).length b) (wrE d (frs n) ((foz d.seen (frs n)).length : Int) b.length))
def rp3 (d : Dm) (n : By) : Int × Dm := (rawE d (thE d (frs n)), rawD d (.ren (frs n) n) (thE d (frs n)))
def repD (d : Dm) (n b : By) : Int × Dm :=
  if d.dead then (9, d) else
  if (rp1 d n).1 ≠ 0 then rp1 d n else
  if (rp2 (rp1 d n).2 n b).1 ≠ 0 then rp2 (rp1 d n).2 n b else
  if (rp3 (rp2 (rp1 d n).2 n b).2 n).1 ≠ 0 then rp3 (rp2 (rp1 d n).2 n b).2 n else
  (rawE (rp3 (rp2 (rp1 d n).2 n b).2 n).2 0, flD (rp3 (rp2 (rp1 d n).2 n b).2 n).2)
/-- a drive of bounded size -/
structure Bd (T L Q : Nat) (R : Int) (d : Dm) : Prop where
  srt : Srt d.seen
  tot : tot d.seen ≤ T
  len : d.seen.length ≤ L
  que : d.queue.length ≤ Q
  room : d.room = R
theorem Bd.mono {T L Q T' L' Q' : Nat} {R : Int} {d : Dm} (h : Bd T L Q R d) (h1 : T ≤ T') (h2 : L ≤ L') (h3 : Q ≤ Q') : Bd T' L' Q' R d := ⟨h.srt, Nat.le_trans h.tot h1, Nat.le_trans h.len h2, Nat.le_trans h.que h3, h.room⟩
theorem mayD_room (d : Dm) (e : Int) : (mayD d e).room = d.room ∧ (mayD d e).seen = d.seen ∧ (mayD d e).queue = d.queue := by
  unfold mayD
  repeat (first | exact ⟨rfl, rfl, rfl⟩ | split)
theorem Bd.raw {T L Q : Nat} {R : Int} {d : Dm} (h : Bd T L Q R d) (x : Dd) (e : Int) (k : Nat) (hx : YtbmhkdcmepfmbaaGreat.tot (ddo d.seen x x.units) ≤ T + k) : Bd (T + k) (L + 1) (Q + 1) R (rawD d x e) := by
  unfold rawD
  split
  · exact ⟨h.srt.ddo _ _, hx, by have := ddo_len d.seen h.srt x x.units; have := h.len; show (ddo d.seen x x.units).length ≤ _; omega, by show (d.queue ++ [x]).length ≤ _; have := h.que; simp; omega, (mayD_room d e).1.trans h.room⟩
  · exact h.mono (by omega) (by omega) (by omega)
theorem Bd.rem {T L Q : Nat} {R : Int} {d : Dm} (h : Bd T L Q R d) (n : By) (e : Int) : Bd T (L + 1) (Q + 1) R (rawD d (.rem n) e) := by
  have := tot_ddo h.srt (.rem n) 1
  exact h.raw (.rem n) e 0 (Nat.le_trans this h.tot)
theorem Bd.ren {T L Q : Nat} {R : Int} {d : Dm} (h : Bd T L Q R d) (n m : By) (e : Int) : Bd T (L + 1) (Q + 1) R (rawD d (.ren n m) e) := by
  have := tot_ddo h.srt (.ren n m) 1
  exact h.raw (.ren n m) e 0 (Nat.le_trans this h.tot)
theorem Bd.app {T L Q : Nat} {R : Int} {d : Dm} (h : Bd T L Q R d) (n l : By) (e : Int) : Bd (T + l.length) (L + 1) (Q + 1) R (rawD d (.write n (foz d.seen n).length l) e) := by
  have := tot_ddo h.srt (.write n (foz d.seen n).length l) (l.length + 1)
  simp only at this
  exact h.raw (.write n (foz d.seen n).length l) e l.length (by have := h.tot; show YtbmhkdcmepfmbaaGreat.tot (ddo d.seen _ (l.length + 1)) ≤ _; omega)
theorem Bd.rp1 {T L Q : Nat} {R : Int} {d : Dm} (h : Bd T L Q R d) (n : By) : Bd T (L + 1) (Q + 1) R (rp1 d n).2 := by
  unfold Go.Proofs.YtbmhkdcmepfmbaaGreat.rp1
  split
  · exact h.rem _ _
  · exact h.mono (Nat.le_refl _) (by omega) (by omega)
theorem has_nms (F : Fl) (hF : Srt F) (t : By) : hasB (fnm F t) t = (fget F t).isSome := by
  unfold hasB fnm
  rw [Bool.eq_iff_iff, List.contains_iff_mem, List.mem_filter, List.mem_map]
  constructor
  · rintro ⟨⟨x, hx, rfl⟩, _⟩
    rw [fget_of_mem hF (s := x.1) (l := x.2) hx]; rfl
  · intro h
    obtain ⟨l, hl⟩ := Option.isSome_iff_exists.1 h
    exact ⟨⟨_, fget_mem hl, rfl⟩, by simp [pfx]⟩
set_option maxRecDepth 100000 in
set_option maxHeartbeats 8000000 in
/-- drive.Replace -/
theorem replace_any {M D A : Nat → Prop} {w : World} {b : Nat} {d : Dm} {v : Value} (n l : By) (h : DrIs M D w b d) (hv : Bs A w v l) (hA : ∀ k, A k → ¬ M k ∧ k ≠ b) (hn : n.length ≤ 1000) (hs : Srt d.seen) (ht : tot d.seen ≤ 100000000) (hl : l.length ≤ 100000000) (hr : 0 ≤ d.room ∧ d.room ≤ 9223372036854775807) (hsl : d.seen.length ≤ 1000) (hql : d.queue.length ≤ 1000) :
    Calls Tryz.prog 42 #[.pointer (some ⟨b, 0, none⟩), .string ⟨n.toArray⟩, v] w fun E w' => E = .returned (.int .i64 (repD d n l).1) ∧ Turned M D w b (repD d n l).2 w' := by
  obtain ⟨va, vc, rfl, hx1⟩ := hv.at
  clear hx1
  have HH := Hid.mk' h
  have HV := Hid.mk' hv
  have HS := Hid.mk' hs
  have HR : Hid (repD d n l = if d.dead = true then (9, d) else if (rp1 d n).1 ≠ 0 then rp1 d n else if (rp2 (rp1 d n).2 n l).1 ≠ 0 then rp2 (rp1 d n).2 n l else if (rp3 (rp2 (rp1 d n).2 n l).2 n).1 ≠ 0 then rp3 (rp2 (rp1 d n).2 n l).2 n else (rawE (rp3 (rp2 (rp1 d n).2 n l).2 n).2 0, flD (rp3 (rp2 (rp1 d n).2 n l).2 n).2)) := rfl
  have hcat : (⟨n.toArray⟩ : ByteArray) ++ ⟨#[126]⟩ = ⟨(frs n).toArray⟩ := ba_app n [126]
  have hsz : (⟨n.toArray⟩ : ByteArray).size = n.length := by simp [ByteArray.size]
  have HDD := Hid.mk' (dead_any h)
  obtain ⟨R, hR⟩ : ∃ R, R = repD d n l := ⟨_, rfl⟩
  rw [← hR] at HR ⊢
  clear hR h hv
  generalize hdd : d.dead = dd at *
  cases dd
  case true =>
    rw [if_pos rfl] at HR
    go_enter Tryz.func42, Tryz.ntmps42
    go_wp2_with fail
    refine HDD.out.mono ?_
    rintro E w1 ⟨rfl, rfl⟩
    go_wp2_with fail
    go_ret
    exact ⟨by rw [HR.out]; rfl, by rw [HR.out]; exact Turned.refl HH.out⟩
  case false =>
  have HDF := Hid.mk' hdd
  clear hdd
  simp only [Bool.false_eq_true, if_false] at HR
  go_enter Tryz.func42, Tryz.ntmps42
  go_wp2_with fail
  refine HDD.out.mono ?_
  rintro E w1 ⟨rfl, rfl⟩
  go_wp2_with fail
  have HBD : Hid (Bd 100000000 1000 1000 d.room d) := ⟨HS.out, ht, hsl, hql, rfl⟩
  have HRM := Hid.mk' hr
  have HLL := Hid.mk' hl
  have HNN := Hid.mk' hn
  have HFR : Hid ((frs n).length ≤ 1001) := by show _ ≤ _; unfold frs; simp; omega
  have HAA := Hid.mk' hA
  have hlim : lim = 140737488351232 := rfl
  have HLIM := Hid.mk' hlim
  clear ht hl hr hsl hql hA hlim
  refine (list_any (frs n) HH.out (by have := HFR.out; unfold maxLen; omega) (by have := HBD.out.len; omega)).mono ?_
  rintro E w2 ⟨u2, rfl, o2, b2⟩
  obtain ⟨la, lc, rfl⟩ := o2.slice
  have hls : lsD d (frs n) = fnm d.seen (frs n) := by unfold lsD; rw [HDF.out]; rfl
  have HCO := Hid.mk' (contains_any (frs n) (o2.ss (by have h1 := fnm_le d.seen (frs n); have := HBD.out.len; have := HLIM.out; rw [hls]; omega)))
  rw [hls, has_nms _ HS.out] at HCO
  have HR1 : Hid (rp1 d n = if (fget d.seen (frs n)).isSome = true then (rawE d (thE d (frs n)), rawD d (.rem (frs n)) (thE d (frs n))) else (0, d)) := rfl
  have HB1 := Hid.mk' (HBD.out.rp1 n)
  have HDR2 := Hid.mk' (HH.out.below b2)
  have B2 := Hid.mk' b2
  have HRE := Hid.mk' (remove_any (frs n) HDR2.out (by have := HFR.out; unfold maxLen; omega) (by have := HBD.out.len; unfold maxLen; omega) (by have := HBD.out.que; omega))
  rw [hls]
  clear o2 b2 hls
  generalize hi : (fget d.seen (frs n)).isSome = is at *
  have HIS := Hid.mk' hi
  clear hi
  go_wp2_with fail
  refine HCO.out.mono ?_
  rintro E w3 ⟨rfl, rfl⟩
  go_upto_if 18 with fail
  go_cut [7] (fun q7 wx => Hid ((rp1 d n).1 = 0) ∧ Hid (Turned M D w b (rp1 d n).2 wx))
  case first =>
    cases is
    · have HZ : Hid (rp1 d n = (0, d)) := by show _ = _; rw [HR1.out]; rfl
      go_wp2_with fail
      go_meet
      exact ⟨by show _ = _; rw [HZ.out], by show Turned _ _ _ _ _ _; rw [HZ.out]; exact (Turned.refl HH.out).up B2.out⟩
    · have HZ : Hid (rp1 d n = (rawE d (thE d (frs n)), rawD d (.rem (frs n)) (thE d (frs n)))) := by show _ = _; rw [HR1.out]; rfl
      go_wp2_with fail
      refine HRE.out.mono ?_
      rintro E w4 ⟨rfl, hT⟩
      have HT : Hid (Turned M D w b (rawD d (.rem (frs n)) (thE d (frs n))) w4) := Turned.trans (Wb.of_below _ B2.out) (fun _ h => .inl h) (fun _ h => .inl h) hT
      clear hT
      by_cases h0 : rawE d (thE d (frs n)) = 0
      · have HM1 : Hid ((rp1 d n).1 = 0) := by show _ = _; rw [HZ.out]; exact h0
        have HM2 : Hid (Turned M D w b (rp1 d n).2 w4) := by rw [HZ.out]; exact HT.out
        go_wp2_with fail
        go_meet
        exact ⟨HM1, HM2⟩
      · have h0' : (rawE d (thE d (frs n)) == 0) = false := by simpa using h0
        have HM : Hid (R = (rawE d (thE d (frs n)), rawD d (.rem (frs n)) (thE d (frs n)))) := by
          show _ = _
          rw [HR.out, HZ.out, if_pos h0]
        clear h0
        generalize rawE d (thE d (frs n)) = e0 at *
        go_wp2_with fail
        go_ret
        exact ⟨by rw [HM.out]; rfl, by rw [HM.out]; exact HT.out⟩
  case rest =>
    obtain ⟨HE0, HT1⟩ := hcut
    have HR2 : Hid (R = if (rp2 (rp1 d n).2 n l).1 ≠ 0 then rp2 (rp1 d n).2 n l else if (rp3 (rp2 (rp1 d n).2 n l).2 n).1 ≠ 0 then rp3 (rp2 (rp1 d n).2 n l).2 n else (rawE (rp3 (rp2 (rp1 d n).2 n l).2 n).2 0, flD (rp3 (rp2 (rp1 d n).2 n l).2 n).2)) := by
      show _ = _
      rw [HR.out, if_neg (by rw [HE0.out]; simp)]
    generalize (rp1 d n).2 = d1 at *
    clear HR HR1 HE0 HRE HCO HDR2 HIS
    rename World => wx
    obtain ⟨hw1, M1, D1, i1, i2, hd1⟩ := HT1.out
    have hvx : Bs A wx (.slice va l.length vc) l := HV.out.wb hw1 fun k hk hk2 => by
      have := HAA.out k hk2
      rcases hk with hk | hk
      · exact this.2 hk
      · exact this.1 hk
    have h3 := foz_le d1.seen (frs n)
    have AP := Hid.mk' (append_any (frs n) l _ hd1 (by have := HFR.out; unfold maxLen; omega) hvx (by have := HB1.out.tot; have := HLIM.out; omega) (by rw [HB1.out.room]; exact HRM.out) (fun _ => by have := HB1.out.tot; have := HLIM.out; have := HLL.out; omega) (by have := HB1.out.len; unfold maxLen; omega) (by have := HB1.out.que; omega))
    have HP2 : Hid (rp2 d1 n l = (rawE d1 (wrE d1 (frs n) ((foz d1.seen (frs n)).length : Int) l.length), rawD d1 (.write (frs n) (foz d1.seen (frs n)).length l) (wrE d1 (frs n) ((foz d1.seen (frs n)).length : Int) l.length))) := rfl
    have HB2 : Hid (Bd (100000000 + l.length) 1002 1002 d.room (rp2 d1 n l).2) := HB1.out.app (frs n) l _
    have HWI := Hid.mk' (⟨hw1, i1, i2⟩ : _ ∧ _ ∧ _)
    clear hvx h3 hw1 i1 i2 hd1
    go_wp2_with fail
    refine AP.out.mono ?_
    rintro E w5 ⟨rfl, hT⟩
    have HT2 := Hid.mk' (Turned.trans HWI.out.1 HWI.out.2.1 HWI.out.2.2 hT)
    rw [Int.toNat_natCast] at HT2
    clear hT AP HWI HT1 HB1
    by_cases h2 : (rp2 d1 n l).1 = 0
    case neg =>
      have HM : Hid (R = rp2 d1 n l) := by show _ = _; rw [HR2.out, if_pos h2]
      have HE2 : Hid (rawE d1 (wrE d1 (frs n) ((foz d1.seen (frs n)).length : Int) l.length) = (rp2 d1 n l).1) := by show _ = _; rw [HP2.out]
      have HD2 : Hid (rawD d1 (.write (frs n) (foz d1.seen (frs n)).length l) (wrE d1 (frs n) ((foz d1.seen (frs n)).length : Int) l.length) = (rp2 d1 n l).2) := by show _ = _; rw [HP2.out]
      have h2' : ((rp2 d1 n l).1 == 0) = false := by simpa using h2
      rw [HD2.out] at HT2
      rw [HE2.out]
      clear h2 HR2 HP2
      generalize (rp2 d1 n l) = p2 at *
      go_wp2_with fail
      go_ret
      exact ⟨by rw [HM.out]; rfl, by rw [HM.out]; exact HT2.out⟩
    case pos =>
    have HR3 : Hid (R = if (rp3 (rp2 d1 n l).2 n).1 ≠ 0 then rp3 (rp2 d1 n l).2 n else (rawE (rp3 (rp2 d1 n l).2 n).2 0, flD (rp3 (rp2 d1 n l).2 n).2)) := by show _ = _; rw [HR2.out, if_neg (by rw [h2]; simp)]
    have HE2 : Hid (rawE d1 (wrE d1 (frs n) ((foz d1.seen (frs n)).length : Int) l.length) = 0) := by show _ = _; rw [← h2, HP2.out]
    have HD2 : Hid (rawD d1 (.write (frs n) (foz d1.seen (frs n)).length l) (wrE d1 (frs n) ((foz d1.seen (frs n)).length : Int) l.length) = (rp2 d1 n l).2) := by show _ = _; rw [HP2.out]
    rw [HD2.out] at HT2
    rw [HE2.out]
    clear h2 HR2 HP2 HE2 HD2
    generalize (rp2 d1 n l).2 = d2 at *
    obtain ⟨hw1, M2, D2, i1, i2, hd2⟩ := HT2.out
    have RN := Hid.mk' (rename_any (frs n) n hd2 (by have := HFR.out; unfold maxLen; omega) (by have := HNN.out; unfold maxLen; omega) (by have := HB2.out.len; unfold maxLen; omega) (by have := HB2.out.que; omega))
    have HWI := Hid.mk' (⟨hw1, i1, i2⟩ : _ ∧ _ ∧ _)
    have HP3 : Hid (rp3 d2 n = (rawE d2 (thE d2 (frs n)), rawD d2 (.ren (frs n) n) (thE d2 (frs n)))) := rfl
    clear hw1 i1 i2 hd2
    rename World => wy
    go_wp2_with fail
    refine RN.out.mono ?_
    rintro E w6 ⟨rfl, hT⟩
    have HT3 := Hid.mk' (Turned.trans HWI.out.1 HWI.out.2.1 HWI.out.2.2 hT)
    clear hT RN HWI HT2
    by_cases h3 : (rp3 d2 n).1 = 0
    case neg =>
      have HM : Hid (R = rp3 d2 n) := by show _ = _; rw [HR3.out, if_pos h3]
      have HE3 : Hid (rawE d2 (thE d2 (frs n)) = (rp3 d2 n).1) := by show _ = _; rw [HP3.out]
      have HD3 : Hid (rawD d2 (.ren (frs n) n) (thE d2 (frs n)) = (rp3 d2 n).2) := by show _ = _; rw [HP3.out]
      have h3' : ((rp3 d2 n).1 == 0) = false := by simpa using h3
      rw [HD3.out] at HT3
      rw [HE3.out]
      clear h3 HR3 HP3
      generalize (rp3 d2 n) = p3 at *
      go_wp2_with fail
      go_ret
      exact ⟨by rw [HM.out]; rfl, by rw [HM.out]; exact HT3.out⟩
    case pos =>
    have HR4 : Hid (R = (rawE (rp3 d2 n).2 0, flD (rp3 d2 n).2)) := by show _ = _; rw [HR3.out, if_neg (by rw [h3]; simp)]
    have HE3 : Hid (rawE d2 (thE d2 (frs n)) = 0) := by show _ = _; rw [← h3, HP3.out]
    have HD3 : Hid (rawD d2 (.ren (frs n) n) (thE d2 (frs n)) = (rp3 d2 n).2) := by show _ = _; rw [HP3.out]
    rw [HD3.out] at HT3
    rw [HE3.out]
    clear h3 HR3 HP3 HE3 HD3
    generalize (rp3 d2 n).2 = d3 at *
    obtain ⟨hw1, M3, D3, i1, i2, hd3⟩ := HT3.out
    have FL := Hid.mk' (flush_any hd3)
    have HWI := Hid.mk' (⟨hw1, i1, i2⟩ : _ ∧ _ ∧ _)
    clear hw1 i1 i2 hd3
    rename World => wz
    go_wp2_with fail
    refine FL.out.mono ?_
    rintro E w7 ⟨rfl, hT⟩
    have HT4 := Hid.mk' (Turned.trans HWI.out.1 HWI.out.2.1 HWI.out.2.2 hT)
    clear hT FL HWI HT3
    go_wp2_with fail
    go_ret
    exact ⟨by rw [HR4.out]; rfl, by rw [HR4.out]; exact HT4.out⟩
end Go.Proofs.YtbmhkdcmepfmbaaGreat
