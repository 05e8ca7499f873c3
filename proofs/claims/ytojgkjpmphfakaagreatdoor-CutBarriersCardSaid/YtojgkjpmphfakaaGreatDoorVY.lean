/- strings.Join: the contract of the library, laid at this program. vault.Shelf: Path, Store, Fetch, Names. -/
import Derived.Shelf.Strings.OnBuilder
import Derived.Test.YtojgkjpmphfakaaGreatDoorVQ
set_option linter.unusedVariables false
set_option linter.unusedSimpArgs false
namespace Go.Proofs.YtojgkjpmphfakaaGreatDoor
open Go.Shelf
def Tryz.lays156_ren : Go.Shelf.Ren := ⟨fun | 156 => 56 | 165 => 73 | 166 => 74 | 169 => 75 | 240 => 87 | 241 => 88 | 276 => 97 | 277 => 98 | n => n, fun | 31 => 24 | 9 => 9 | 3 => 3 | 4 => 4 | 0 => 0 | 20 => 20 | 72 => 127 | 76 => 131 | 70 => 125 | 37 => 69 | 75 => 130 | 127 => 144 | 164 => 147 | 5 => 5 | 80 => 133 | n => n, fun | n => n⟩
theorem Tryz.lays156 : Go.Proofs.Lays.n156 Tryz.prog Tryz.lays156_ren := {
  mixed := by kernel_rfl
  f156 := Tryz.func56.trans (congrArg some (by kernel_rfl))
  f165 := Tryz.func73.trans (congrArg some (by kernel_rfl))
  f166 := Tryz.func74.trans (congrArg some (by kernel_rfl))
  f169 := Tryz.func75.trans (congrArg some (by kernel_rfl))
  f240 := Tryz.func87.trans (congrArg some (by kernel_rfl))
  f241 := Tryz.func88.trans (congrArg some (by kernel_rfl))
  f276 := Tryz.func97.trans (congrArg some (by kernel_rfl))
  f277 := Tryz.func98.trans (congrArg some (by kernel_rfl))
  t0 := Tryz.underlying0
  a0 := Tryz.isAgg0
  z0 := Tryz.sizeOf0
  v0 := Tryz.zeroValue0
  t3 := Tryz.underlying3
  a3 := Tryz.isAgg3
  z3 := Tryz.sizeOf3
  v3 := Tryz.zeroValue3
  t4 := Tryz.underlying4
  a4 := Tryz.isAgg4
  z4 := Tryz.sizeOf4
  v4 := Tryz.zeroValue4
  t9 := Tryz.underlying9
  a9 := Tryz.isAgg9
  z9 := Tryz.sizeOf9
  v9 := Tryz.zeroValue9
  t20 := Tryz.underlying20
  a20 := Tryz.isAgg20
  z20 := Tryz.sizeOf20
  v20 := Tryz.zeroValue20
  t31 := Tryz.underlying24
  a31 := Tryz.isAgg24
  z31 := Tryz.sizeOf24
  v31 := Tryz.zeroValue24
  t37 := Tryz.underlying69
  a37 := Tryz.isAgg69
  z37 := Tryz.sizeOf69
  v37 := Tryz.zeroValue69
  t70 := Tryz.underlying125
  a70 := Tryz.isAgg125
  z70 := Tryz.sizeOf125
  v70 := Tryz.zeroValue125
  t72 := Tryz.underlying127
  a72 := Tryz.isAgg127
  z72 := Tryz.sizeOf127
  v72 := Tryz.zeroValue127
  t75 := Tryz.underlying130
  a75 := Tryz.isAgg130
  z75 := Tryz.sizeOf130
  v75 := Tryz.zeroValue130
  t76 := Tryz.underlying131
  a76 := Tryz.isAgg131
  z76 := Tryz.sizeOf131
  v76 := Tryz.zeroValue131
  t127 := Tryz.underlying144
  a127 := Tryz.isAgg144
  z127 := Tryz.sizeOf144
  v127 := Tryz.zeroValue144
  t164 := Tryz.underlying147
  a164 := Tryz.isAgg147
  z164 := Tryz.sizeOf147
  v164 := Tryz.zeroValue147 }
theorem Tryz.Builder_Extra_156 : Builder.Extra Tryz.prog Tryz.lays156_ren := {
  sizeBuilder := by kernel_rfl
  liesBuilder := by kernel_rfl
  t5 := Tryz.underlying5
  a5 := Tryz.isAgg5
  z5 := Tryz.sizeOf5
  v5 := Tryz.zeroValue5
  infoByte := by kernel_rfl
  cellsByte := by kernel_rfl
  sizeByte := by kernel_rfl
  neB5 := by decide }
open Go.RowKit in
theorem Tryz.strings_Join_none (a : Option Addr) (c : Nat) (sep : ByteArray) (w : World) :
    Calls Tryz.prog 56 #[.slice a 0 c, .string sep] w fun e w' => e = .returned (.string ⟨#[]⟩) ∧ w' = w := Any.strings_Join_none Tryz.lays156 Tryz.Builder_Extra_156 a c sep w
open Go.RowKit in
theorem Tryz.strings_Join (bk o c : Nat) (xs : List ByteArray) (sep : ByteArray) (w : World) (hcells : ∀ (j : Nat) x, xs[j]? = some x → w.cell? ⟨bk, o + j, none⟩ = some (.string x)) (hbk : bk < w.heap.size) (hN : xs.length ≤ 140737488355328) (hcap : xs.length ≤ c) (hlen : (Lib.join (xs.map (·.data.toList)) sep.data.toList).length ≤ 140737488355328) :
    Calls Tryz.prog 56 #[.slice (some ⟨bk, o, none⟩) xs.length c, .string sep] w fun e w' => e = .returned (.string ⟨(Lib.join (xs.map (·.data.toList)) sep.data.toList).toArray⟩) ∧ Below w.heap.size w w' := Any.strings_Join Tryz.lays156 Tryz.Builder_Extra_156 bk o c xs sep w hcells hbk hN hcap hlen

end Go.Proofs.YtojgkjpmphfakaaGreatDoor
set_option linter.unusedVariables false
set_option linter.unusedSimpArgs false
namespace Go.Proofs.YtojgkjpmphfakaaGreatDoor
open Go.RowKit
theorem join_nil (xs : List (List UInt8)) : Lib.join xs [] = xs.flatten := by
  unfold Lib.join
  induction xs with
  | nil => rfl
  | cons x xs ih =>
    cases xs with
    | nil => simp [List.intercalate]
    | cons y r =>
      rw [List.flatten_cons, ← ih]
      simp [List.intercalate, List.intersperse]
/-- strings.Join without anything between -/
theorem join_any {A : Nat → Prop} {w : World} {u : Value} {l : List (List UInt8)} (h : Ss A w u l) (hl : l.flatten.length ≤ 100000000) : Calls Tryz.prog 56 #[u, .string ⟨#[]⟩] w fun e w' => e = .returned (.string ⟨l.flatten.toArray⟩) ∧ Below w.heap.size w w' := by
  obtain ⟨a, c, rfl, hc, ha, H⟩ := h.at
  cases l with
  | nil => exact (Tryz.strings_Join_none a c ⟨#[]⟩ w).mono fun e w' ⟨h1, h2⟩ => ⟨h1, by rw [h2]; exact Below.refl _ _⟩
  | cons x r =>
    obtain ⟨b, o, rfl, _, hu⟩ := H 0 (by simp)
    have hb : b < w.heap.size := World.block_lt_of_cell? w ⟨b, o + 0, none⟩ hu
    have hj : Lib.join (((x :: r).map fun y => (⟨y.toArray⟩ : ByteArray)).map (·.data.toList)) ((⟨#[]⟩ : ByteArray)).data.toList = (x :: r).flatten := by
      rw [List.map_map]
      show Lib.join ((x :: r).map fun y => y) [] = _
      rw [List.map_id', join_nil]
    have := Tryz.strings_Join b o c ((x :: r).map fun y => ⟨y.toArray⟩) ⟨#[]⟩ w (fun j y hj => by
      rw [List.getElem?_map] at hj
      obtain ⟨z, hz, rfl⟩ := Option.map_eq_some_iff.1 hj
      obtain ⟨hj', rfl⟩ := List.getElem?_eq_some_iff.1 hz
      obtain ⟨b', o', e, _, hu'⟩ := H j hj'
      cases e
      exact hu') hb (by rw [List.length_map]; have := h.2; unfold lim at this; omega) (by rw [List.length_map]; exact hc) (by rw [hj]; omega)
    rw [hj, List.length_map] at this
    exact this
set_option maxRecDepth 100000 in
set_option maxHeartbeats 1000000 in
/-- Shelf.Path -/
theorem path_any {A : Nat → Prop} {w : World} {b : Nat} {u : Value} {ps : List (List UInt8)} (p : List UInt8) (h : Ss A w u ps) (hl : p.length + ps.flatten.length ≤ 100000000) :
    Calls Tryz.prog 44 #[.agg #[.pointer (some ⟨b, 0, none⟩), .string ⟨p.toArray⟩], u] w fun e w' => e = .returned (.string ⟨(p ++ ps.flatten).toArray⟩) ∧ Below w.heap.size w w' := by
  obtain ⟨W, hW⟩ : ∃ W, W = w.alloc (.cells #[.pointer (some ⟨b, 0, none⟩), .string ⟨p.toArray⟩] 29) := ⟨_, rfl⟩
  have HB : Hid (Below w.heap.size w W) := by rw [hW]; exact up_alloc _ _
  have hc : W.cell? ⟨w.heap.size, 1, none⟩ = some (.string ⟨p.toArray⟩) := by
    have hb : W.heap[w.heap.size]? = some (.cells #[.pointer (some ⟨b, 0, none⟩), .string ⟨p.toArray⟩] 29) := by rw [hW]; exact heap_alloc_new w _
    simp only [World.cell?, hb]; rfl
  have HJ : Hid (∀ q : Ups W, Calls Tryz.prog 56 #[u, .string ⟨#[]⟩] q.nx fun e w' => e = .returned (.string ⟨ps.flatten.toArray⟩) ∧ Below q.nx.heap.size q.nx w') := fun q => join_any (h.up (bt HB.out q.ok)) (by omega)
  obtain ⟨ua, uc, rfl, _⟩ := h.at
  have hlen : (p.length : Int) + (ps.flatten.length : Int) ≤ 100000000 := by omega
  have e1 : (⟨p.toArray⟩ : ByteArray).size = p.length := by simp [ByteArray.size]
  have e2 : (⟨ps.flatten.toArray⟩ : ByteArray).size = ps.flatten.length := by simp [ByteArray.size]
  have e3 := ba_app p ps.flatten
  clear h hl
  generalize ps.flatten = f at *
  have hlim : ¬ 9223372036854775807 < p.length + f.length := by omega
  go_enter Tryz.func44, Tryz.ntmps44
  go_wp2_with fail
  rw [← hW]
  clear hW
  have r1 : ∀ q : Ups W, q.nx.cell? ⟨w.heap.size, 1, none⟩ = some _ := fun q => q.cell hc
  refine wp_region_up (by kernel_rfl) (by kernel_rfl) ?_
  repeat (go_big_quiet_step (exact ups_call (HJ.out _)))
  refine wpQuiet_nil ?_
  intro _ hw'
  obtain ⟨q, hw''⟩ := hw'
  subst hw''
  have HQ := Hid.mk' (bt HB.out q.ok)
  generalize q.nx = w2 at *
  clear q
  go_wp2_with fail
  go_ret
  exact ⟨rfl, HQ.out⟩
/-- what a Put may write: the vault's box, and what is no row -/
def Gv (b : Nat) (W : World) (k : Nat) : Prop := k = b ∨ ∀ c e fr, W.heap[k]? ≠ some (.cells c e fr)
theorem kp_put {b : Nat} {W w1 w2 : World} (h1 : Below W.heap.size W w1) (h2 : w1.heap.size ≤ w2.heap.size) (hk : CellsBut b w1 w2) : ∃ p : Kp (Gv b W) W, w2 = p.nx := by
  refine kp_mk (Nat.le_trans h1.size h2) fun k hk' hg => ?_
  have hn : k ≠ b := fun e => hg (.inl e)
  have hx : ∃ c e fr, W.heap[k]? = some (.cells c e fr) := Classical.byContradiction fun hx => hg (.inr fun c e fr h => hx ⟨c, e, fr, h⟩)
  obtain ⟨c, e, fr, h⟩ := hx
  rw [h]
  exact hk k c e fr hn (by rw [h1.block k hk']; exact h)
set_option maxRecDepth 100000 in
set_option maxHeartbeats 2000000 in
/-- Shelf.Store -/
theorem store_any {A A' V : Nat → Prop} {B b n : Nat} {w : World} {u v : Value} {f : List UInt8 → Option (List UInt8)} {ps : List (List UInt8)} (p l : List UInt8) (hI : VaultIs B V w b f n) (hn : n < maxLen) (h : Ss A w u ps) (hv : Bs A' w v l) (hl : p.length + ps.flatten.length ≤ 100000000) :
    Calls Tryz.prog 26 #[.agg #[.pointer (some ⟨b, 0, none⟩), .string ⟨p.toArray⟩], v, u] w (PutPost B V w b f n (p ++ ps.flatten) l) := by
  obtain ⟨W, hW⟩ : ∃ W, W = w.alloc (.cells #[.pointer (some ⟨b, 0, none⟩), .string ⟨p.toArray⟩] 29) := ⟨_, rfl⟩
  have HB : Hid (Below w.heap.size w W) := by rw [hW]; exact up_alloc _ _
  have hbx : W.heap[w.heap.size]? = some (.cells #[.pointer (some ⟨b, 0, none⟩), .string ⟨p.toArray⟩] 29) := by rw [hW]; exact heap_alloc_new w _
  have hc0 : W.cell? ⟨w.heap.size, 0, none⟩ = some (.pointer (some ⟨b, 0, none⟩)) := by simp only [World.cell?, hbx]; rfl
  have hc1 : W.cell? ⟨w.heap.size, 1, none⟩ = some (.string ⟨p.toArray⟩) := by simp only [World.cell?, hbx]; rfl
  have hb : b < w.heap.size := by obtain ⟨r, hr⟩ := hI.box; exact (Array.getElem?_eq_some_iff.1 hr).1
  obtain ⟨ua, uc, rfl, _⟩ := h.at
  obtain ⟨va, vc, rfl, _⟩ := hv.at
  have HH := Hid.mk' h
  have HVv := Hid.mk' hv
  have HI := Hid.mk' hI
  have HBB : Hid (B ≤ w.heap.size) := Nat.le_trans hI.1 (Nat.le_of_lt hb)
  have hgb : ¬ Gv b W w.heap.size := fun hg => by rcases hg with hg | hg; exact absurd hg (by omega); exact hg _ _ _ hbx
  have HN := Hid.mk' hn
  have HL := Hid.mk' hl
  clear h hv hI hbx hn hl
  go_enter Tryz.func26, Tryz.ntmps26
  go_wp2_with fail
  rw [← hW]
  clear hW
  have r0 : ∀ q : Kp (Gv b W) W, q.nx.cell? ⟨w.heap.size, 0, none⟩ = some _ := fun q => q.cell hc0 hgb
  have r1 : ∀ q : Kp (Gv b W) W, q.nx.cell? ⟨w.heap.size, 1, none⟩ = some _ := fun q => q.cell hc1 hgb
  refine wp_region_mix 8 (fun w' => ∃ q : Kp (Gv b W) W, w' = q.nx) (by kernel_rfl) (by kernel_rfl) (kp_first _ W) ?_
  simp only [List.take_succ_cons, List.take_zero, List.drop_succ_cons, List.drop_zero]
  refine mx_take 4 rfl ?_
  simp only [List.take_succ_cons, List.take_zero, List.drop_succ_cons, List.drop_zero]
  repeat (go_big_quiet_step (fail))
  refine wpQuiet_nil ?_
  have hd := drew_blx W W.heap.size
  refine mx_call (vals := [.agg #[.pointer (some ⟨b, 0, none⟩), .string ⟨p.toArray⟩], .slice ua ps.length uc]) Tryz.func44 (by kernel_rfl) rfl rfl (by kernel_rfl) (by kernel_rfl) (path_any p (HH.out.up (bt HB.out hd)) HL.out) (fun e wa ha => ?_)
  obtain ⟨rfl, hba⟩ := ha
  have HBA := Hid.mk' (hd.trans hba)
  refine ⟨_, rfl, kp_mk HBA.out.size fun k hk _ => HBA.out.block k hk, ?_⟩
  simp only [Act.put, List.setIfInBounds_toArray, List.set_cons_succ, List.set_cons_zero]
  refine mx_take 1 rfl ?_
  simp only [List.take_succ_cons, List.take_zero, List.drop_succ_cons, List.drop_zero]
  repeat (go_big_quiet_step (fail))
  refine wpQuiet_nil ?_
  have hwa := bt HB.out HBA.out
  refine mx_call (vals := [.pointer (some ⟨b, 0, none⟩), .string ⟨(p ++ ps.flatten).toArray⟩, .slice va l.length vc]) Tryz.func43 (by kernel_rfl) rfl rfl (by kernel_rfl) (by kernel_rfl) (put_any (p ++ ps.flatten) l (HI.out.up hwa) (by rw [List.length_append]; have := HL.out; unfold maxLen; omega) HN.out (HVv.out.up hwa)) (fun e wb hb => ?_)
  obtain ⟨rfl, p1, p2, p3⟩ := hb
  refine ⟨_, rfl, kp_put HBA.out p1.size p2, ?_⟩
  simp only [Act.put, List.setIfInBounds_toArray, List.set_cons_succ, List.set_cons_zero]
  refine mx_take 1 rfl ?_
  simp only [List.take_succ_cons, List.take_zero, List.drop_succ_cons, List.drop_zero]
  repeat (go_big_quiet_step (fail))
  refine wpQuiet_nil ?_
  simp only [wpMix]
  have HF := Hid.mk' (And.intro (hwa.mono HBB.out |>.trans p1) (And.intro ((CellsBut.of_below hwa).trans p2) (p3.mono fun k hk => hk.imp id fun h => Nat.le_trans hwa.size h)))
  clear r0 r1 hc0 hc1 hd hba hwa p1 p2 p3
  go_wp2_with fail
  go_ret
  exact ⟨rfl, HF.out⟩
set_option maxRecDepth 100000 in
set_option maxHeartbeats 2000000 in
/-- Shelf.Fetch -/
theorem fetch_any {A V : Nat → Prop} {B b n : Nat} {w : World} {u : Value} {f : List UInt8 → Option (List UInt8)} {ps : List (List UInt8)} (p : List UInt8) (hI : VaultIs B V w b f n) (h : Ss A w u ps) (hl : p.length + ps.flatten.length ≤ 100000000) :
    Calls Tryz.prog 38 #[.agg #[.pointer (some ⟨b, 0, none⟩), .string ⟨p.toArray⟩], u] w (GetPost w f (p ++ ps.flatten)) := by
  obtain ⟨W, hW⟩ : ∃ W, W = w.alloc (.cells #[.pointer (some ⟨b, 0, none⟩), .string ⟨p.toArray⟩] 29) := ⟨_, rfl⟩
  have HB : Hid (Below w.heap.size w W) := by rw [hW]; exact up_alloc _ _
  have hbx : W.heap[w.heap.size]? = some (.cells #[.pointer (some ⟨b, 0, none⟩), .string ⟨p.toArray⟩] 29) := by rw [hW]; exact heap_alloc_new w _
  have hc0 : W.cell? ⟨w.heap.size, 0, none⟩ = some (.pointer (some ⟨b, 0, none⟩)) := by simp only [World.cell?, hbx]; rfl
  have hc1 : W.cell? ⟨w.heap.size, 1, none⟩ = some (.string ⟨p.toArray⟩) := by simp only [World.cell?, hbx]; rfl
  obtain ⟨ua, uc, rfl, _⟩ := h.at
  have HH := Hid.mk' h
  have HI := Hid.mk' hI
  have HL := Hid.mk' hl
  clear h hI hbx hl
  go_enter Tryz.func38, Tryz.ntmps38
  go_wp2_with fail
  rw [← hW]
  clear hW
  have r0 : ∀ q : Kp (fun _ => False) W, q.nx.cell? ⟨w.heap.size, 0, none⟩ = some _ := fun q => q.cell hc0 id
  have r1 : ∀ q : Kp (fun _ => False) W, q.nx.cell? ⟨w.heap.size, 1, none⟩ = some _ := fun q => q.cell hc1 id
  refine wp_region_mix 10 (fun w' => ∃ q : Kp (fun _ => False) W, w' = q.nx) (by kernel_rfl) (by kernel_rfl) (kp_first _ W) ?_
  simp only [List.take_succ_cons, List.take_zero, List.drop_succ_cons, List.drop_zero]
  refine mx_take 4 rfl ?_
  simp only [List.take_succ_cons, List.take_zero, List.drop_succ_cons, List.drop_zero]
  repeat (go_big_quiet_step (fail))
  refine wpQuiet_nil ?_
  have hd := drew_blx W W.heap.size
  refine mx_call (vals := [.agg #[.pointer (some ⟨b, 0, none⟩), .string ⟨p.toArray⟩], .slice ua ps.length uc]) Tryz.func44 (by kernel_rfl) rfl rfl (by kernel_rfl) (by kernel_rfl) (path_any p (HH.out.up (bt HB.out hd)) HL.out) (fun e wa ha => ?_)
  obtain ⟨rfl, hba⟩ := ha
  have HBA := Hid.mk' (hd.trans hba)
  refine ⟨_, rfl, kp_mk HBA.out.size fun k hk _ => HBA.out.block k hk, ?_⟩
  simp only [Act.put, List.setIfInBounds_toArray, List.set_cons_succ, List.set_cons_zero]
  have hwa := bt HB.out HBA.out
  refine mx_call (vals := [.pointer (some ⟨b, 0, none⟩), .string ⟨(p ++ ps.flatten).toArray⟩]) Tryz.func53 (by kernel_rfl) rfl rfl (by kernel_rfl) (by kernel_rfl) (get_any (p ++ ps.flatten) (HI.out.up hwa) (by rw [List.length_append]; have := HL.out; unfold maxLen; omega)) (fun e wb hb => ?_)
  obtain ⟨v', rfl, p1, p2⟩ := hb
  refine ⟨_, rfl, kp_mk (bt HBA.out p1).size fun k hk _ => (bt HBA.out p1).block k hk, ?_⟩
  simp only [Act.put, List.setIfInBounds_toArray, List.set_cons_succ, List.set_cons_zero]
  refine mx_take 4 rfl ?_
  simp only [List.take_succ_cons, List.take_zero, List.drop_succ_cons, List.drop_zero]
  repeat (go_big_quiet_step (fail))
  refine wpQuiet_nil ?_
  simp only [wpMix]
  have HF := Hid.mk' (And.intro (bt hwa p1) (p2.mono hwa.size))
  clear r0 r1 hc0 hc1 hd hba hwa p1 p2
  go_wp2_with fail
  go_ret2
  exact ⟨v', rfl, HF.out⟩
end Go.Proofs.YtojgkjpmphfakaaGreatDoor
set_option linter.unusedVariables false
set_option linter.unusedSimpArgs false
namespace Go.Proofs.YtojgkjpmphfakaaGreatDoor
open Go.RowKit
theorem one_ss {w : World} (x : List UInt8) : Ss (Lt (w.heap.size + 1)) (w.alloc (.cells #[.string ⟨x.toArray⟩] 9)) (.slice (some ⟨w.heap.size, 0, none⟩) 1 1) [x] := ⟨row_one, by unfold lim; simp⟩
theorem tlist_len (l : List Th) (p : List UInt8) (k : Nat) : (tlist (l.take k) p).length ≤ l.length := by
  unfold tlist
  refine Nat.le_trans (List.length_filter_le _ _) ?_
  simp
  exact Nat.min_le_right _ _
theorem exec_store95 {w : World} {o : Oper} {a : Act} {x y : Operand} {b : Nat} {x0 x1 : Value} {q : Option Addr} {s : ByteArray} (ho : o.op = .store 29 x y) (hx : a.eval x = .pointer (some ⟨b, 0, none⟩)) (hy : a.eval y = .agg #[.pointer q, .string s])
    (h : w.heap[b]? = some (.cells #[x0, x1] 29 (0, 0))) : (execOp a.eval o).run Tryz.prog w = .ok .skip ((w.setCell ⟨b, 0, none⟩ (.pointer q)).setCell ⟨b, 1, none⟩ (.string s)) := by
  obtain ⟨⟨z0, z1⟩, zf⟩ := cl2_get h
  unfold execOp
  simp only [ho, hx, hy]
  simp [go_sem, z0, z1, zf]
theorem list_tl2 {B b : Nat} {V : Nat → Prop} {w : World} {l : List Th} (p : List UInt8) (hI : VaultIs B V w b (tget l) l.length) (hA : Asc l) (hp : p.length ≤ maxLen) (hn : l.length ≤ 1000000) :
    Calls Tryz.prog 59 #[.pointer (some ⟨b, 0, none⟩), .string ⟨p.toArray⟩] w fun e w' => ∃ u, e = .returned u ∧ So 9 w.heap.size w' u (tlist l p) ∧ Below w.heap.size w w' :=
  (list_any p hI hp hn).mono fun e w' ⟨v', L, h1, h2, h3, h4⟩ => ⟨v', h1, by rw [keys_list h2 (fun _ => rfl) hA] at h3; exact h3, h4⟩
theorem tlist_pfx {l : List Th} {q p x : List UInt8} (h : x ∈ tlist l (p ++ q)) : p.length ≤ x.length := by
  unfold tlist at h
  have h2 := (List.mem_filter.1 h).2
  unfold pfx at h2
  simp only [List.length_append, Bool.and_eq_true, decide_eq_true_eq] at h2
  omega
set_option maxRecDepth 100000 in
set_option maxHeartbeats 2000000 in
/-- Shelf.Names -/
theorem names_any {A V : Nat → Prop} {B b : Nat} {w : World} {u : Value} {l : List Th} {ps : List (List UInt8)} (p : List UInt8) (hI : VaultIs B V w b (tget l) l.length) (hA : Asc l) (hn : l.length ≤ 100000) (h : Ss A w u ps) (hl : p.length + ps.flatten.length ≤ 100000000) (hs : ∀ t ∈ l, t.1.length ≤ maxLen) :
    Calls Tryz.prog 47 #[.agg #[.pointer (some ⟨b, 0, none⟩), .string ⟨p.toArray⟩], u] w fun e w' => ∃ x, e = .returned x ∧ So 9 w.heap.size w' x ((tlist l (p ++ ps.flatten)).map (·.drop p.length)) ∧ Below w.heap.size w w' := by
  obtain ⟨W, hW⟩ : ∃ W, W = w.alloc (.cells #[.pointer (some ⟨b, 0, none⟩), .string ⟨p.toArray⟩] 29) := ⟨_, rfl⟩
  have HB : Hid (Below w.heap.size w W) := by rw [hW]; exact up_alloc _ _
  have hbx : W.heap[w.heap.size]? = some (.cells #[.pointer (some ⟨b, 0, none⟩), .string ⟨p.toArray⟩] 29) := by rw [hW]; exact heap_alloc_new w _
  have hc0 : W.cell? ⟨w.heap.size, 0, none⟩ = some (.pointer (some ⟨b, 0, none⟩)) := by simp only [World.cell?, hbx]; rfl
  have hc1 : W.cell? ⟨w.heap.size, 1, none⟩ = some (.string ⟨p.toArray⟩) := by simp only [World.cell?, hbx]; rfl
  obtain ⟨ua, uc, rfl, _⟩ := h.at
  have HH := Hid.mk' h
  have HI := Hid.mk' hI
  have HL := Hid.mk' hl
  have HN := Hid.mk' hn
  have HS := Hid.mk' hs
  clear h hI hbx hl hn hs
  go_enter Tryz.func47, Tryz.ntmps47
  go_wp2_with fail
  rw [← hW]
  clear hW
  have r0 : ∀ q : Kp (fun _ => False) W, q.nx.cell? ⟨w.heap.size, 0, none⟩ = some _ := fun q => q.cell hc0 id
  have r1 : ∀ q : Kp (fun _ => False) W, q.nx.cell? ⟨w.heap.size, 1, none⟩ = some _ := fun q => q.cell hc1 id
  refine wp_region_mix 8 (fun w' => ∃ q : Kp (fun _ => False) W, w' = q.nx) (by kernel_rfl) (by kernel_rfl) (kp_first _ W) ?_
  simp only [List.take_succ_cons, List.take_zero, List.drop_succ_cons, List.drop_zero]
  refine mx_take 4 rfl ?_
  simp only [List.take_succ_cons, List.take_zero, List.drop_succ_cons, List.drop_zero]
  repeat (go_big_quiet_step (fail))
  refine wpQuiet_nil ?_
  have hd := drew_blx W W.heap.size
  refine mx_call (vals := [.agg #[.pointer (some ⟨b, 0, none⟩), .string ⟨p.toArray⟩], .slice ua ps.length uc]) Tryz.func44 (by kernel_rfl) rfl rfl (by kernel_rfl) (by kernel_rfl) (path_any p (HH.out.up (bt HB.out hd)) HL.out) (fun e wa ha => ?_)
  obtain ⟨rfl, hba⟩ := ha
  have HBA := Hid.mk' (hd.trans hba)
  refine ⟨_, rfl, kp_mk HBA.out.size fun k hk _ => HBA.out.block k hk, ?_⟩
  simp only [Act.put, List.setIfInBounds_toArray, List.set_cons_succ, List.set_cons_zero]
  have hwa := bt HB.out HBA.out
  refine mx_call (vals := [.pointer (some ⟨b, 0, none⟩), .string ⟨(p ++ ps.flatten).toArray⟩]) Tryz.func59 (by kernel_rfl) rfl rfl (by kernel_rfl) (by kernel_rfl) (list_tl2 (p ++ ps.flatten) (HI.out.up hwa) hA (by rw [List.length_append]; have := HL.out; unfold maxLen; omega) (by have := HN.out; omega)) (fun e wb hb => ?_)
  obtain ⟨v', rfl, p1, p2⟩ := hb
  refine ⟨_, rfl, kp_mk (bt HBA.out p2).size fun k hk _ => (bt HBA.out p2).block k hk, ?_⟩
  obtain ⟨va, vc, rfl⟩ := p1.slice
  simp only [Act.put, List.setIfInBounds_toArray, List.set_cons_succ, List.set_cons_zero]
  refine mx_take 2 rfl ?_
  simp only [List.take_succ_cons, List.take_zero, List.drop_succ_cons, List.drop_zero]
  repeat (go_big_quiet_step (fail))
  refine wpQuiet_nil ?_
  simp only [wpMix]
  have HLL : Hid ((tlist l (p ++ ps.flatten)).length ≤ 100000) := by have := tlist_len l (p ++ ps.flatten) l.length; rw [List.take_length] at this; exact Nat.le_trans this HN.out
  have HPF : Hid (∀ x ∈ tlist l (p ++ ps.flatten), p.length ≤ x.length ∧ x.length ≤ maxLen) := fun x hx => ⟨tlist_pfx hx, by
    obtain ⟨t, ht, rfl⟩ := List.mem_map.1 (List.mem_filter.1 hx).1
    exact HS.out t ht⟩
  have HSo := Hid.mk' p1
  have HBW := Hid.mk' (bt hwa p2)
  have hq1 := cell_later (bt HBA.out p2) hc1
  have hpl : (p.length : Int) ≤ 100000000 := by have := HL.out; omega
  have e1 : (⟨p.toArray⟩ : ByteArray).size = p.length := by simp [ByteArray.size]
  clear r0 r1 hc0 hc1 hd hba hwa p1 p2 hA
  generalize hLg : tlist l (p ++ ps.flatten) = L at *
  have HLG := Hid.mk' hLg
  clear hLg
  have hll : (L.length : Int) ≤ 100000 := by have := HLL.out; omega
  go_wp2_with fail
  go_loopw [5, 15] (fun x i wr => ∃ k : Nat, k ≤ L.length ∧ i = .int .i64 k ∧ Hid (So 9 wb.heap.size wr x ((L.take k).map (·.drop p.length))) ∧ Hid (Below wb.heap.size wb wr)) (fun _ i _ => L.length - (intOf i).toNat)
  case atStart => exact ⟨0, by omega, rfl, so_nil, Below.refl _ _⟩
  case round =>
    obtain ⟨k, hk, rfl, HO, HBR⟩ := hrel
    by_cases hlt : k < L.length
    · have hlt' : (k : Int) < (L.length : Int) := by omega
      have HSS := (HSo.out.ss (by have := HLL.out; unfold lim; omega)).up HBR.out
      obtain ⟨_, _, ec, _, _, H⟩ := HSS.at
      cases ec
      obtain ⟨b', o, rfl, _, hu⟩ := H k hlt
      have hq := cell_later HBR.out hq1
      obtain ⟨g1, g2⟩ := HPF.out _ (List.getElem_mem hlt)
      have HT : Hid ((L.take (k + 1)).map (·.drop p.length) = (L.take k).map (·.drop p.length) ++ [L[k].drop p.length]) := by show _ = _; rw [List.take_succ_eq_append_getElem hlt, List.map_append]; rfl
      clear H HSS
      generalize L[k] = x at *
      have e2 : (⟨x.toArray⟩ : ByteArray).size = x.length := by simp [ByteArray.size]
      have e3 := ba_drop x p.length
      have g1' : (p.length : Int) ≤ (x.length : Int) := by omega
      have g2' : (x.length : Int) ≤ 9223372036854775807 := by unfold maxLen at g2; omega
      obtain ⟨ua2, uc2, eu⟩ := HO.out.slice
      have HKL : Hid (((L.take k).map (·.drop p.length)).length ≤ 100000) := by show _ ≤ _; rw [List.length_map, List.length_take]; have := HLL.out; omega
      have HBO : Hid (wb.heap.size ≤ wr.heap.size) := HBR.out.size
      go_wp2_with (at_builtin; go_must (refine app75 (v := u5) rfl (.tmp 19) (.tmp 25) rfl rfl (HO.out.alloc _) rfl (one_ss (x.drop p.length)) (by have := HKL.out; simp only [List.length_singleton]; unfold lim; omega) (by have := HBO.out; simp; omega) ?_); intro v5 w5 ho5 hg5; have HO5 := Hid.mk' ho5; have HB5 := Hid.mk' (below_appS (B0 := wb.heap.size) (HBR.out.trans ((up_alloc wr _).mono HBR.out.size)) (HO.out.alloc _) hg5 (Nat.le_refl _) (Nat.le_trans HBO.out (up_alloc wr _).size)); clear ho5 hg5)
      go_roundw
      case rel => exact ⟨k + 1, by omega, by go_num, by rw [HT.out]; exact HO5, HB5⟩
      case measure => simp [intOf]; omega
    · obtain rfl : k = L.length := by omega
      have HT : Hid (L.take L.length = L) := List.take_length
      go_wp2_with fail
      go_ret
      exact ⟨u5, rfl, by rw [HLG.out]; have := HO.out; rw [HT.out] at this; exact this.mono HBW.out.size, bt HBW.out HBR.out⟩
end Go.Proofs.YtojgkjpmphfakaaGreatDoor
