/- Rows of strings. strings.HasPrefix; slices.DeleteFunc of strings by it. -/
import Derived.Test.YtojgkjpmphfakaaGreatDoorW3
import Derived.Lib.SliceRun
set_option linter.unusedVariables false
set_option linter.unusedSimpArgs false
namespace Go.Proofs.YtojgkjpmphfakaaGreatDoor
open Go.RowKit
/-- the cells of strings -/
def sv (l : List (List UInt8)) : List Value := l.map fun s => .string ⟨s.toArray⟩
@[simp] theorem sv_length (l : List (List UInt8)) : (sv l).length = l.length := by simp [sv]
theorem sv_append (l r : List (List UInt8)) : sv (l ++ r) = sv l ++ sv r := by simp [sv]
theorem sv_one (l : List (List UInt8)) : ∀ u ∈ sv l, u.oneCell' = true := by
  intro u hu; simp [sv] at hu; obtain ⟨x, _, rfl⟩ := hu; rfl
theorem sv_get (l : List (List UInt8)) (j : Nat) (h : j < l.length) : (sv l)[j]? = some (.string ⟨l[j].toArray⟩) := by simp [sv, h]
/-- v reads as the strings l -/
def Ss (A : Nat → Prop) (w : World) (v : Value) (l : List (List UInt8)) : Prop := Row 1 A w v l.length (sv l) ∧ l.length * 16 ≤ lim
theorem Ss.up {A : Nat → Prop} {w w' : World} {v : Value} {l : List (List UInt8)} (h : Ss A w v l) (hb : Below w.heap.size w w') : Ss A w' v l := ⟨h.1.up hb, h.2⟩
theorem Ss.keepS {A : Nat → Prop} {w w' : World} {v : Value} {l : List (List UInt8)} (h : Ss A w v l) (hb : Same A w w') : Ss A w' v l := ⟨h.1.keepS hb, h.2⟩
theorem Ss.at {A : Nat → Prop} {w : World} {v : Value} {l : List (List UInt8)} (h : Ss A w v l) : ∃ (a : Option Addr) (c : Nat), v = .slice a l.length c ∧ l.length ≤ c ∧ (a = none → c = 0) ∧
    ∀ j (hj : j < l.length), ∃ b o, a = some ⟨b, o, none⟩ ∧ A b ∧ w.cell? ⟨b, o + j, none⟩ = some (.string ⟨l[j].toArray⟩) := by
  obtain ⟨a, c, hv, hc, ha, H⟩ := h.1.at1
  exact ⟨a, c, hv, hc, ha, fun j hj => by obtain ⟨b, o, h1, h2, h3⟩ := H j hj; exact ⟨b, o, h1, h2, by rw [h3, sv_get l j hj]⟩⟩
/-- strings of the call's own -/
def So (e : TypeId) (B : Nat) (w : World) (v : Value) (l : List (List UInt8)) : Prop := w.ownsRow B e 1 v l.length (sv l)
theorem So.ss {e : TypeId} {B : Nat} {w : World} {v : Value} {l : List (List UInt8)} (h : So e B w v l) (hl : l.length * 16 ≤ lim) : Ss (Lt w.heap.size) w v l := ⟨Row.of_own h, hl⟩
theorem So.up {e : TypeId} {B : Nat} {w w' : World} {v : Value} {l : List (List UInt8)} (h : So e B w v l) (hb : Below w.heap.size w w') : So e B w' v l := own_keep h hb (Nat.le_refl _)
theorem So.alloc {e : TypeId} {B : Nat} {w : World} {v : Value} {l : List (List UInt8)} (h : So e B w v l) (o : Obj) : So e B (w.alloc o) v l := World.ownsRow.alloc h o
theorem So.mono {e : TypeId} {B B' : Nat} {w : World} {v : Value} {l : List (List UInt8)} (h : So e B w v l) (hB : B' ≤ B) : So e B' w v l := own_mono h hB
theorem So.slice {e : TypeId} {B : Nat} {w : World} {v : Value} {l : List (List UInt8)} (h : So e B w v l) : ∃ ao c, v = .slice ao l.length c := by
  rcases h.2 with ⟨rfl, h1⟩ | ⟨g, cap, cur, rfl, _⟩
  · exact ⟨none, 0, by rw [h1]⟩
  · exact ⟨_, _, rfl⟩
theorem So.lt {e : TypeId} {B : Nat} {w : World} {v : Value} {l : List (List UInt8)} (h : So e B w v l) : ∀ k, v.ownBlock = some k → B ≤ k ∧ k < w.heap.size := World.ownsRow.lt h
theorem So.form {e : TypeId} {B : Nat} {w : World} {v : Value} {l : List (List UInt8)} (h : So e B w v l) (hl : 0 < l.length) : ∃ g cap, v = .slice (some ⟨g, 0, none⟩) l.length cap ∧ l.length ≤ cap := by
  obtain ⟨_, h | ⟨g', cap', cur, hv, hb, hg, h1, _⟩⟩ := h
  · have := h.2; omega
  · exact ⟨_, _, hv, h1⟩
theorem So.cell {e : TypeId} {B g n cap : Nat} {w : World} {l : List (List UInt8)} (h : So e B w (.slice (some ⟨g, 0, none⟩) n cap) l) (j : Nat) (hj : j < l.length) : w.cell? ⟨g, j, none⟩ = some (.string ⟨l[j].toArray⟩) := by
  have hn : n = l.length := by obtain ⟨ao, c, e⟩ := h.slice; simp at e; exact e.2.1
  subst hn
  rw [World.ownsRow.cellAt h j (by omega), sv_get l j hj]
theorem So.frozen {e : TypeId} {B g n cap : Nat} {w : World} {l : List (List UInt8)} (h : So e B w (.slice (some ⟨g, 0, none⟩) n cap) l) (j : Nat) : w.frozen? ⟨g, j, none⟩ = false := by
  have hn : n = l.length := by obtain ⟨ao, c, e⟩ := h.slice; simp at e; exact e.2.1
  subst hn
  exact World.ownsRow.frozenAt h j
theorem So.set {e : TypeId} {B g n cap : Nat} {w : World} {l : List (List UInt8)} (h : So e B w (.slice (some ⟨g, 0, none⟩) n cap) l) (j : Nat) (s : List UInt8) : So e B (w.setCell ⟨g, j, none⟩ (.string ⟨s.toArray⟩)) (.slice (some ⟨g, 0, none⟩) n cap) (l.set j s) := by
  have hn : n = l.length := by obtain ⟨ao, c, e⟩ := h.slice; simp at e; exact e.2.1
  subst hn
  have := (World.ownsRow.stored h j (.string ⟨s.toArray⟩)).1
  unfold So
  rw [List.length_set]
  have e : sv (l.set j s) = (sv l).set j (.string ⟨s.toArray⟩) := by simp [sv, List.map_set]
  rw [e]; exact this
theorem so_nil {B : Nat} {w : World} {e : TypeId} : So e B w (.slice none 0 0) [] := World.ownsRow_nil w B e 1
theorem so_empty {B : Nat} {w : World} {e : TypeId} (hB : B ≤ w.heap.size) : So e B (w.alloc (.cells #[] e)) (.slice (some ⟨w.heap.size, 0, none⟩) 0 0) [] := own_empty hB
/-- a beginning of it -/
theorem So.pre {e : TypeId} {B g n cap m : Nat} {w : World} {l : List (List UInt8)} (h : So e B w (.slice (some ⟨g, 0, none⟩) n cap) l) (hm : m ≤ l.length) : So e B w (.slice (some ⟨g, 0, none⟩) m cap) (l.take m) := by
  have hn : n = l.length := by obtain ⟨ao, c, e⟩ := h.slice; simp at e; exact e.2.1
  subst hn
  obtain ⟨h0, h | ⟨g', cap', cur, hv, hb, hg, h1, h2, h3, h4⟩⟩ := h
  · cases h.1
  · cases hv
    have hl : (l.take m).length = m := by rw [List.length_take]; omega
    refine ⟨by rw [sv_length, Nat.mul_one], .inr ⟨g, cap, cur, by rw [hl], hb, hg, by omega, h2, h3, ?_⟩⟩
    rw [Nat.mul_one] at h4 ⊢
    rw [hl]
    have : sv (l.take m) = (sv l).take m := by simp [sv, List.map_take]
    rw [this, ← h4, List.take_take]
    congr 1; omega
/-- cleared from a place on -/
theorem So.cleared {e : TypeId} {B g n cap : Nat} : ∀ (m : Nat) (w : World) (l : List (List UInt8)) (o : Nat), So e B w (.slice (some ⟨g, 0, none⟩) n cap) l → o + m ≤ l.length →
    ∃ l', So e B (w.setCells g o (List.replicate m (.string ⟨#[]⟩))) (.slice (some ⟨g, 0, none⟩) n cap) l' ∧ l'.length = l.length ∧ l'.take o = l.take o
  | 0, w, l, o, h, _ => ⟨l, h, rfl, rfl⟩
  | m + 1, w, l, o, h, hm => by
    obtain ⟨l', h1, h2, h3⟩ := So.cleared m _ (l.set o []) (o + 1) (h.set o []) (by rw [List.length_set]; omega)
    rw [List.length_set] at h2
    refine ⟨l', h1, h2, ?_⟩
    have := congrArg (List.take o) h3
    rw [List.take_take, List.take_take, Nat.min_eq_left (by omega), List.take_set_of_le (Nat.le_refl _)] at this
    exact this
theorem Tryz.info9 : (Tryz.prog.info? 9).map (fun i => (i.zero, i.size, i.bytes)) = some (some (.string ⟨#[]⟩), 1, 16) := by kernel_rfl
set_option maxRecDepth 100000 in
theorem app75 {w : World} {ops : Array Oper} {rest : List Oper} {o : Oper} {a : Act} {Q : Exit → Act → World → Prop} (hgd : o.guard = none) (s x : Operand)
    (ho : o.op = .call { callee := .builtin .append, args := #[s, x], argTypes := #[24, 24] }) {B : Nat} {v : Value} {l : List (List UInt8)} (hs : a.eval s = v) (hown : So 9 B w v l)
    {A : Nat → Prop} {u : Value} {m : List (List UInt8)} (hx : a.eval x = u) (hsrc : Ss A w u m) (hlen : (l.length + m.length) * 16 ≤ lim) (hB : B ≤ w.heap.size)
    (h : ∀ v' w', So 9 B w' v' (l ++ m) → w.grownBy w' v.ownBlock → wpList Tryz.prog ops Q rest (a.put o.dst v') w') :
    wpList Tryz.prog ops Q (o :: rest) a w := by
  unfold lim at hlen
  refine wpl_app hgd s x 24 ho Tryz.underlying24 Tryz.info9 rfl (by decide) hs hown hx hsrc.1 (sv_one m) (by unfold maxLen; omega) (by omega) hB fun v' w' h1 h2 h3 h4 => h v' w' ?_ h2
  unfold So
  rw [List.length_append, sv_append]
  exact h1
theorem below_appS {B0 B : Nat} {e : TypeId} {W w w' : World} {v : Value} {l : List (List UInt8)} (h : Below B0 W w) (hown : So e B w v l) (hg : w.grownBy w' v.ownBlock) (hB : B0 ≤ B) (hle : B0 ≤ w.heap.size) : Below B0 W w' := below_app h hown hg hB hle
end Go.Proofs.YtojgkjpmphfakaaGreatDoor
set_option linter.unusedVariables false
set_option linter.unusedSimpArgs false
namespace Go.Proofs.YtojgkjpmphfakaaGreatDoor
open Go.RowKit
/-- does s begin with p? -/
def pfx (p s : List UInt8) : Bool := decide (p.length ≤ s.length) && (s.take p.length == p)
set_option maxHeartbeats 400000 in
theorem c107 (p s : List UInt8) (w : World) (hp : p.length ≤ maxLen) (hs : s.length ≤ maxLen) : Calls Tryz.prog 92 #[.string ⟨s.toArray⟩, .string ⟨p.toArray⟩] w fun e w' => e = .returned (.bool (pfx p s)) ∧ w = w' := by
  have HB : Hid (pfx p s = (decide (p.length ≤ s.length) && (s.take p.length == p))) := rfl
  have e1 : (⟨s.toArray⟩ : ByteArray).size = s.length := by simp [ByteArray.size]
  have e2 : (⟨p.toArray⟩ : ByteArray).size = p.length := by simp [ByteArray.size]
  have e3 := ba_take s p.length
  by_cases h : p.length ≤ s.length
  · have h1 : (p.length : Int) ≤ (s.length : Int) := by omega
    have HB2 : Hid (pfx p s = (s.take p.length == p)) := by show _ = _; rw [HB.out]; simp [h]
    go_enter Tryz.func92, Tryz.ntmps92
    go_wp2
    go_ret
    exact ⟨ret_b (by rw [HB2.out]), rfl⟩
  · have h1 : ¬ (p.length : Int) ≤ (s.length : Int) := by omega
    have HB2 : Hid (pfx p s = false) := by show _ = _; rw [HB.out]; simp [h]
    go_enter Tryz.func92, Tryz.ntmps92
    go_wp2
    go_ret
    exact ⟨ret_b (by rw [HB2.out]), rfl⟩
theorem c91 (p s : List UInt8) (w : World) (hp : p.length ≤ maxLen) (hs : s.length ≤ maxLen) : Calls Tryz.prog 80 #[.string ⟨s.toArray⟩, .string ⟨p.toArray⟩] w fun e w' => e = .returned (.bool (pfx p s)) ∧ w = w' := by
  have HC := Hid.mk' (c107 p s w hp hs)
  go_enter Tryz.func80, Tryz.ntmps80
  go_wp2_with fail
  refine HC.out.mono ?_
  rintro e w1 ⟨rfl, rfl⟩
  go_wp2_with fail
  go_ret
  exact ⟨rfl, rfl⟩
theorem c90 {b : Nat} {w : World} (p s : List UInt8) (hp : p.length ≤ maxLen) (hs : s.length ≤ maxLen) (hc : w.cell? ⟨b, 0, none⟩ = some (.string ⟨p.toArray⟩)) : Calls Tryz.prog 79 #[.string ⟨s.toArray⟩, .pointer (some ⟨b, 0, none⟩)] w fun e w' => e = .returned (.bool (!pfx p s)) ∧ w = w' := by
  have HC := Hid.mk' (c91 p s w hp hs)
  go_enter Tryz.func79, Tryz.ntmps79
  go_wp2_with fail
  refine HC.out.mono ?_
  rintro e w1 ⟨rfl, rfl⟩
  go_wp2_with fail
  go_ret
  exact ⟨rfl, rfl⟩
set_option maxHeartbeats 400000 in
/-- IndexFunc with that -/
theorem c106 {A : Nat → Prop} {w : World} {v : Value} {l : List (List UInt8)} {b : Nat} {p : List UInt8} (h : Ss A w v l) (hl : ∀ s ∈ l, s.length ≤ maxLen) (hp : p.length ≤ maxLen) (hm : w.cell? ⟨b, 0, none⟩ = some (.string ⟨p.toArray⟩)) :
    Calls Tryz.prog 51 #[v, .func (.func 79) #[] #[.pointer (some ⟨b, 0, none⟩)]] w fun e w' => (∃ k : Int, e = .returned (.int .i64 k) ∧ Hid (k = -1 ∧ (∀ s ∈ l, pfx p s = true) ∨ ∃ j : Nat, k = j ∧ ∃ h : j < l.length, pfx p l[j] = false ∧ ∀ s ∈ l.take j, pfx p s = true)) ∧ w = w' := by
  obtain ⟨a, c, rfl, hc, _, H⟩ := h.at
  have H : Hid _ := H
  have hlim : l.length * 16 ≤ 140737488351232 := h.2
  have HL := Hid.mk' hl
  clear h hl
  go_enter Tryz.func51, Tryz.ntmps51
  go_wp2_with fail
  go_loop [8] (fun i => ∃ k : Nat, k ≤ l.length ∧ i = .int .i64 k ∧ Hid (∀ s ∈ l.take k, pfx p s = true)) (fun i => l.length - (intOf i).toNat)
  case atStart => exact ⟨0, by omega, rfl, Hid.mk' (by simp)⟩
  case round =>
    obtain ⟨k, hk, rfl, HF⟩ := hrel
    by_cases hlt : k < l.length
    · have hlt' : (k : Int) < (l.length : Int) := by omega
      have hl' : (l.length : Int) ≤ 140737488351232 := by omega
      obtain ⟨b', o, rfl, _, hu⟩ := H.out k hlt
      have HC := Hid.mk' (c90 p l[k] hp (HL.out _ (List.getElem_mem hlt)) hm)
      cases hd : pfx p l[k] with
      | false =>
        rw [hd] at HC
        have HR : Hid ((k : Int) = -1 ∧ (∀ s ∈ l, pfx p s = true) ∨ ∃ j : Nat, (k : Int) = j ∧ ∃ h : j < l.length, pfx p l[j] = false ∧ ∀ s ∈ l.take j, pfx p s = true) := .inr ⟨k, rfl, hlt, hd, HF.out⟩
        clear hd
        go_wp2_with fail
        refine HC.out.mono ?_
        rintro e w' ⟨rfl, rfl⟩
        go_wp2_with fail
        go_ret
        exact ⟨⟨_, rfl, HR⟩, rfl⟩
      | true =>
        rw [hd] at HC
        have HT2 : Hid (∀ s ∈ l.take (k + 1), pfx p s = true) := fun s hs => by
          rw [List.take_succ_eq_append_getElem hlt, List.mem_append, List.mem_singleton] at hs
          rcases hs with hs | rfl
          · exact HF.out s hs
          · exact hd
        clear hd
        go_wp2_with fail
        refine HC.out.mono ?_
        rintro e w' ⟨rfl, rfl⟩
        go_wp2_with fail
        go_round
        case rel => exact ⟨k + 1, by omega, by go_num, HT2⟩
        case measure => simp [intOf]; omega
    · obtain rfl : k = l.length := by omega
      have HL2 : Hid (∀ s ∈ l, pfx p s = true) := by have := HF.out; rwa [List.take_length] at this
      go_wp2_with fail
      go_ret
      exact ⟨⟨_, rfl, Hid.mk' (.inl ⟨rfl, HL2.out⟩)⟩, rfl⟩
theorem Tryz.size24 (w : World) : (sizeOf (Tryz.prog.elem 24)).run Tryz.prog w = .ok 1 w := by kernel_rfl
theorem zero9 (w : World) : (zeroValue 9).run Tryz.prog w = .ok (.string ⟨#[]⟩) w := by kernel_rfl
theorem s75_lo (w : World) (b n c l : Nat) (h1 : l < n) (h2 : n ≤ c) : (Instr.slice 24 (.slice (some ⟨b, 0, none⟩) n c) (some (.int .i64 (l : Int))) none none).run Tryz.prog w = .ok (.slice (some ⟨b, l, none⟩) (n - l) (c - l)) w := by
  rw [run_slice_l w 24 _ n c (by kernel_rfl) .i64 (l : Int) (by omega) (by omega), Tryz.size24]
  simp only [Result.andThen, Int.toNat_natCast, Go.sliced]
  rw [if_neg (by omega), Option.map_some, Nat.mul_one, addr_add, Nat.zero_add]
theorem s75_hi (w : World) (b n c h : Nat) (h1 : h ≤ n) (h2 : n ≤ c) (h3 : 0 < c) : (Instr.slice 24 (.slice (some ⟨b, 0, none⟩) n c) none (some (.int .i64 (h : Int))) none).run Tryz.prog w = .ok (.slice (some ⟨b, 0, none⟩) h c) w := by
  rw [run_slice_h w 24 _ n c (by kernel_rfl) .i64 (h : Int) (by omega) (by omega), Tryz.size24]
  simp only [Result.andThen, Int.toNat_natCast, Go.sliced, Nat.sub_zero]
  rw [if_neg (by omega), Option.map_some, Nat.zero_mul, addr_add]
theorem filter_all {p : List UInt8} {l : List (List UInt8)} (h : ∀ s ∈ l, pfx p s = true) : l.filter (pfx p) = l := List.filter_eq_self.2 h
def DelR (p : List UInt8) (l l' : List (List UInt8)) (i j : Nat) : Prop := l'.length = l.length ∧ i < j ∧ j ≤ l.length ∧ l'.take i = (l.take j).filter (pfx p) ∧ l'.drop j = l.drop j
theorem DelR.skip {p : List UInt8} {l l' : List (List UInt8)} {i j : Nat} (h : DelR p l l' i j) (hj : j < l.length) (hp : pfx p l[j] = false) : DelR p l l' i (j + 1) := by
  obtain ⟨h1, h2, h3, h4, h5⟩ := h
  refine ⟨h1, by omega, by omega, ?_, ?_⟩
  · rw [h4, List.take_succ_eq_append_getElem hj, List.filter_append]; simp [hp]
  · rw [← List.drop_drop, h5, List.drop_drop]
theorem DelR.put {p : List UInt8} {l l' : List (List UInt8)} {i j : Nat} (h : DelR p l l' i j) (hj : j < l.length) (hp : pfx p l[j] = true) : DelR p l (l'.set i l[j]) (i + 1) (j + 1) := by
  obtain ⟨h1, h2, h3, h4, h5⟩ := h
  refine ⟨by rw [List.length_set]; exact h1, by omega, by omega, ?_, ?_⟩
  · rw [List.take_succ_eq_append_getElem (by rw [List.length_set]; omega), List.take_set_of_le (Nat.le_refl _), h4, List.getElem_set_self, List.take_succ_eq_append_getElem hj, List.filter_append]; simp [hp]
  · rw [List.drop_set_of_lt (by omega), ← List.drop_drop, h5, List.drop_drop]
theorem DelR.get {p : List UInt8} {l l' : List (List UInt8)} {i j : Nat} (h : DelR p l l' i j) (hj : j < l.length) : ∃ h' : j < l'.length, l'[j] = l[j] := by
  obtain ⟨h1, h2, h3, h4, h5⟩ := h
  have h' : j < l'.length := by omega
  refine ⟨h', ?_⟩
  have := congrArg (fun x => x[0]?) h5
  simp only [List.getElem?_drop, Nat.add_zero] at this
  rw [List.getElem?_eq_getElem h', List.getElem?_eq_getElem hj] at this
  exact Option.some.inj this
set_option maxRecDepth 100000 in
set_option maxHeartbeats 2000000 in
/-- DeleteFunc with that -/
theorem c89 {B b : Nat} {w : World} {v : Value} {l : List (List UInt8)} {p : List UInt8} (h : So 9 B w v l) (hlm : l.length * 16 ≤ lim) (hl : ∀ s ∈ l, s.length ≤ maxLen) (hp : p.length ≤ maxLen) (hm : w.cell? ⟨b, 0, none⟩ = some (.string ⟨p.toArray⟩)) (hb : b < B) :
    Calls Tryz.prog 78 #[v, .func (.func 79) #[] #[.pointer (some ⟨b, 0, none⟩)]] w fun e w' => ∃ v', e = .returned v' ∧ So 9 B w' v' (l.filter (pfx p)) ∧ Wb (fun k => v.ownBlock = some k) w w' := by
  have HI := Hid.mk' (c106 (h.ss hlm) hl hp hm)
  have HL := Hid.mk' hl
  have HS := Hid.mk' h
  obtain ⟨ao, c, rfl⟩ := h.slice
  have hlim : l.length * 16 ≤ 140737488351232 := hlm
  clear h hl
  go_enter Tryz.func78, Tryz.ntmps78
  go_wp2_with fail
  refine HI.out.mono ?_
  rintro e w' ⟨⟨k, rfl, HK⟩, rfl⟩
  clear HI
  rcases HK.out with ⟨rfl, hall⟩ | ⟨j, rfl, hj, hjp, hbef⟩
  · have HA := Hid.mk' (filter_all hall)
    clear HK hall
    go_wp2_with fail
    go_ret
    exact ⟨_, rfl, by rw [HA.out]; exact HS.out, Wb.refl _ _⟩
  · have HR : Hid (DelR p l l j (j + 1)) := ⟨rfl, by omega, by omega, by rw [List.take_succ_eq_append_getElem hj, List.filter_append, filter_all hbef]; simp [hjp], rfl⟩
    have hj' : (j : Int) < (l.length : Int) := by omega
    have hl' : (l.length : Int) ≤ 140737488351232 := by omega
    have hne : ((j : Int) == -1) = false := by rw [beq_eq_false_iff_ne]; omega
    obtain ⟨g, cap, ef, hcap⟩ := HS.out.form (by omega)
    simp only [Value.slice.injEq, true_and] at ef
    obtain ⟨rfl, rfl⟩ := ef
    have HG : Hid (B ≤ g ∧ g < w.heap.size) := HS.out.lt g rfl
    clear HK hbef hjp
    go_wp2_with fail
    go_loopw [5, 6] (fun i t wr => ∃ (i' t' : Nat) (l' : List (List UInt8)), i = .int .i64 i' ∧ t = .int .i64 t' ∧ t' ≤ l.length ∧ i' < t' ∧ Hid (DelR p l l' i' t') ∧ Hid (So 9 B wr (.slice (some ⟨g, 0, none⟩) l.length c) l') ∧ Hid (Wb (fun k => k = g) w wr)) (fun _ t _ => l.length - (intOf t).toNat)
    case atStart => exact ⟨j, j + 1, l, rfl, by go_num, by omega, by omega, HR, HS, Wb.refl _ _⟩
    case round =>
      clear HR HS hj hj' hne
      obtain ⟨i, t, l', rfl, rfl, hts, hit, HR, HS, HW⟩ := hrel
      by_cases hlt : t < l.length
      · have hlt' : (t : Int) < (l.length : Int) := by omega
        have hit' : (i : Int) < (l.length : Int) := by omega
        obtain ⟨h5, h6⟩ := HR.out.get hlt
        have hc := HS.out.cell t h5
        rw [h6] at hc
        have hpc : wr.cell? ⟨b, 0, none⟩ = some (.string ⟨p.toArray⟩) := by
          have hbw : b < w.heap.size := World.block_lt_of_cell? w ⟨b, 0, none⟩ hm
          rw [World.cell?_of_block (w := w) (a := ⟨b, 0, none⟩) (HW.out.block b hbw (by have := HG.out.1; omega))]; exact hm
        have HC := Hid.mk' (c90 p l[t] hp (HL.out _ (List.getElem_mem hlt)) hpc)
        obtain ⟨z, hz⟩ : ∃ z, wr.cell? ⟨g, i, none⟩ = some z := ⟨_, HS.out.cell i (by rw [HR.out.1]; omega)⟩
        have hf := HS.out.frozen i
        cases hd : pfx p l[t] with
        | true =>
          rw [hd] at HC
          have HR2 := Hid.mk' (HR.out.put hlt hd)
          have HS2 := Hid.mk' (HS.out.set i l[t])
          have HW2 := Hid.mk' (HW.out.trans (Wb.set (X := fun k => k = g) wr g i (.string ⟨l[t].toArray⟩) rfl))
          clear hd h6
          go_wp2_with fail
          refine HC.out.mono ?_
          rintro e w' ⟨rfl, rfl⟩
          go_wp2_with fail
          go_roundw
          case rel => exact ⟨i + 1, t + 1, _, by go_num, by go_num, by omega, by omega, HR2, HS2, HW2⟩
          case measure => simp [intOf]; omega
        | false =>
          rw [hd] at HC
          have HR2 := Hid.mk' (HR.out.skip hlt hd)
          clear hd h6
          go_wp2_with fail
          refine HC.out.mono ?_
          rintro e w' ⟨rfl, rfl⟩
          go_wp2_with fail
          go_roundw
          case rel => exact ⟨i, t + 1, l', rfl, by go_num, by omega, by omega, HR2, HS, HW⟩
          case measure => simp [intOf]; omega
      · obtain rfl : t = l.length := by omega
        have S1 := s75_lo wr g l.length c i hit hcap
        have hi3 : i < l'.length := by rw [HR.out.1]; exact hit
        have HLN : Hid (l'.length = l.length) := HR.out.1
        have C1 : ∀ ty, (Builtin.clear_ #[24] ty #[.slice (some ⟨g, i, none⟩) (l.length - i) (c - i)]).run Tryz.prog wr = .ok (.tuple #[]) (wr.setCells g i (List.replicate (l.length - i) (.string ⟨#[]⟩))) := fun ty =>
          Lib.run_clear_slice wr 24 9 ty _ Tryz.underlying24 zero9 rfl rfl g i (l.length - i) (c - i) (by omega) (fun t ht => by rw [HS.out.cell (i + t) (by rw [HLN.out]; omega)]; rfl) (fun t ht => HS.out.frozen _)
        obtain ⟨l2, hs2, hl2, ht2⟩ := So.cleared (l.length - i) wr l' i HS.out (by rw [HLN.out]; omega)
        have X2 := HW.out.trans (setCells_wb (b := g) (List.replicate (l.length - i) (.string ⟨#[]⟩)) i wr)
        obtain ⟨W2, hW2⟩ : ∃ W2, W2 = wr.setCells g i (List.replicate (l.length - i) (.string ⟨#[]⟩)) := ⟨_, rfl⟩
        rw [← hW2] at C1 hs2 X2
        have S2 := s75_hi W2 g l.length c i (by omega) hcap (by omega)
        have HF : Hid (So 9 B W2 (.slice (some ⟨g, 0, none⟩) i c) (l.filter (pfx p))) := by
          have h7 := hs2.pre (m := i) (by rw [hl2, HLN.out]; omega)
          rw [ht2, HR.out.2.2.2.1, List.take_length] at h7
          exact h7
        have X2 := Hid.mk' X2
        clear hW2 hs2 hl2 ht2
        go_wp2_with fail
        go_ret
        exact ⟨_, rfl, HF.out, X2.out.mono fun k hk => by subst hk; rfl⟩
end Go.Proofs.YtojgkjpmphfakaaGreatDoor
