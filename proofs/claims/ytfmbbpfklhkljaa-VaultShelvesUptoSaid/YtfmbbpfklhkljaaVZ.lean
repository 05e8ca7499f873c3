/- groynelaw10.VaultShelves. -/
import Derived.Test.YtfmbbpfklhkljaaVY
import Derived.Test.YtfmbbpfklhkljaaFS
set_option linter.unusedVariables false
set_option linter.unusedSimpArgs false
namespace Go.Proofs.Ytfmbbpfklhkljaa
open Go.RowKit
theorem Ts.butV {b : Nat} {A : Nat → Prop} {w w' : World} {v : Value} {l : List Th} (h : Ts A w v l) (hk : CellsBut b w w') {r : Option Nat} {e : TypeId} {fr : Nat × Nat} (hb : w.heap[b]? = some (.cells #[.map r] e fr)) : Ts A w' v l := by
  obtain ⟨L, h1, h2, h3, h4⟩ := h
  refine ⟨L, h1, h2.but hk hb fun hm => ?_, fun q hq => (h3 q hq).but hk hb, h4⟩
  unfold tcs at hm
  obtain ⟨c, hc, hm⟩ := List.mem_flatten.1 hm
  obtain ⟨q, hq, rfl⟩ := List.mem_map.1 hc
  simp only [tc, List.mem_cons, List.not_mem_nil, or_false] at hm
  rcases hm with hm | hm
  · cases hm
  · obtain ⟨a, c, e, _⟩ := (h3 q hq).at
    rw [← hm] at e; cases e
theorem Row.toLtN {sz : Nat} {n : Nat} {A : Nat → Prop} {w : World} {v : Value} {vs : List Value} (h : Row sz A w v n vs) : Row sz (Lt w.heap.size) w v n vs := by
  obtain ⟨hl, a, c, rfl, hc, ha, H⟩ := h
  refine ⟨hl, a, c, rfl, hc, ha, fun j u hj => ?_⟩
  obtain ⟨b, o, h1, h2, h3⟩ := H j u hj
  exact ⟨b, o, h1, World.block_lt_of_cell? w ⟨b, o + j, none⟩ h3, h3⟩
theorem Ts.toLt {A : Nat → Prop} {w : World} {v : Value} {l : List Th} (h : Ts A w v l) : Ts (Lt w.heap.size) w v l := by
  obtain ⟨L, h1, h2, h3, h4⟩ := h
  exact ⟨L, h1, h2.toLtN, fun q hq => ⟨(h3 q hq).1.toLtN, (h3 q hq).2⟩, h4⟩
theorem VaultIs.congrF {B b n m : Nat} {V : Nat → Prop} {w : World} {f g : List UInt8 → Option (List UInt8)} (h : VaultIs B V w b f n) (e : f = g) (e2 : n = m) : VaultIs B V w b g m := by rw [← e, ← e2]; exact h
/-- a shelf of prefix p over a vault that holds just the things l, each named by p and its own bytes -/
structure Sh (w : World) (B b bs : Nat) (p : List UInt8) (l : List Th) (N : Nat) (wr : World) : Prop where
  bl : Below w.heap.size w wr
  B0 : w.heap.size ≤ B
  vi : VaultIs B (fun _ => True) wr b (tget l) l.length
  asc : Asc l
  len : l.length ≤ N
  nm : ∀ t ∈ l, t.1.length ≤ 4000000
  inv : ∀ t ∈ l, t.1 = p ++ t.2
  bx : wr.heap[bs]? = some (.cells #[.pointer (some ⟨b, 0, none⟩), .string ⟨p.toArray⟩] 95 (0, 0))
  ne : bs ≠ b
theorem Sh.up {w wr wr' : World} {B b bs N : Nat} {p : List UInt8} {l : List Th} (h : Sh w B b bs p l N wr) (hb : Below wr.heap.size wr wr') : Sh w B b bs p l N wr' :=
  ⟨bt h.bl hb, h.B0, h.vi.up hb, h.asc, h.len, h.nm, h.inv, by rw [hb.block bs (Array.getElem?_eq_some_iff.1 h.bx).1]; exact h.bx, h.ne⟩
theorem inv_get {l : List Th} {p s x : List UInt8} (h : ∀ t ∈ l, t.1 = p ++ t.2) (hx : tget l s = some x) : s = p ++ x := by
  obtain ⟨t, ht, rfl, rfl⟩ := tget_mem hx
  exact h t ht
theorem inv_putC {l : List Th} {p n : List UInt8} (h : ∀ t ∈ l, t.1 = p ++ t.2) : putC (tget l) (p ++ n) n = 0 := by
  unfold putC
  cases hx : tget l (p ++ n) with
  | none => rfl
  | some x =>
    have := List.append_cancel_left (inv_get h hx)
    subst this
    simp
theorem inv_got {l : List Th} {p n : List UInt8} (ha : Asc l) (h : ∀ t ∈ l, t.1 = p ++ t.2) : tget (tput l (p ++ n) n) (p ++ n) = some n := by
  rw [tput_get ha]
  unfold putF
  rw [if_pos rfl]
  cases hx : tget l (p ++ n) with
  | none => rfl
  | some x =>
    have := List.append_cancel_left (inv_get h hx)
    subst this; rfl
theorem put_there2 {f : List UInt8 → Option (List UInt8)} {s x : List UInt8} (h : f s = some x) (m : Nat) : putF f s x = f ∧ putN f s m = m ∧ putC f s x = 0 := by
  refine ⟨?_, by unfold putN; rw [h], by unfold putC; rw [h]; simp⟩
  funext y
  unfold putF
  split
  · rename_i e; subst e; rw [h]
  · rfl
/-- a Put of the shelf -/
theorem Sh.put {w wr wr' : World} {B b bs N : Nat} {p n : List UInt8} {l : List Th} (h : Sh w B b bs p l N wr) (hn : (p ++ n).length ≤ 4000000) (h1 : Below B wr wr') (h2 : CellsBut b wr wr') (h3 : VaultIs B (fun k => True ∨ wr.heap.size ≤ k) wr' b (putF (tget l) (p ++ n) n) (putN (tget l) (p ++ n) l.length)) : Sh w B b bs p (tput l (p ++ n) n) (N + 1) wr' := by
  refine ⟨h.bl.trans (h1.mono h.B0), h.B0, ((h3.mono fun _ _ => trivial).congrF (by funext s; exact (tput_get h.asc _ _ s).symm) (tput_len _ _).symm), tput_asc h.asc _ _, ?_, fun t ht => ?_, fun t ht => ?_, h2 _ _ _ _ h.ne h.bx, h.ne⟩
  · have := h.len
    rw [tput_len]
    unfold putN
    split <;> omega
  · rcases tput_mem ht with ht | rfl
    · exact h.nm t ht
    · exact hn
  · rcases tput_mem ht with ht | rfl
    · exact h.inv t ht
    · rfl
/-- once more what is there -/
theorem Sh.same {w wr wr' : World} {B b bs N : Nat} {p n : List UInt8} {l : List Th} (h : Sh w B b bs p l N wr) (hx : tget l (p ++ n) = some n) (h1 : Below B wr wr') (h2 : CellsBut b wr wr') (h3 : VaultIs B (fun k => True ∨ wr.heap.size ≤ k) wr' b (putF (tget l) (p ++ n) n) (putN (tget l) (p ++ n) l.length)) : Sh w B b bs p l N wr' := by
  obtain ⟨e1, e2, e3⟩ := put_there2 hx l.length
  exact ⟨h.bl.trans (h1.mono h.B0), h.B0, (h3.mono fun _ _ => trivial).congrF e1 e2, h.asc, h.len, h.nm, h.inv, h2 _ _ _ _ h.ne h.bx, h.ne⟩
theorem ss_nil {A : Nat → Prop} {w : World} : Ss A w (.slice none 0 0) [] := ⟨⟨rfl, none, 0, rfl, Nat.le_refl _, fun _ => rfl, fun j u hj => by simp [sv] at hj⟩, by simp⟩
theorem ss_two {w : World} (x y : List UInt8) : Ss (Lt (w.heap.size + 1)) (w.alloc (.cells #[.string ⟨x.toArray⟩, .string ⟨y.toArray⟩] 9)) (.slice (some ⟨w.heap.size, 0, none⟩) 2 2) [x, y] := by
  refine ⟨⟨rfl, _, _, rfl, Nat.le_refl _, by simp, fun j u hj => ⟨_, _, rfl, Nat.lt_succ_self _, ?_⟩⟩, by unfold lim; simp⟩
  have hb : (w.alloc (.cells #[.string ⟨x.toArray⟩, .string ⟨y.toArray⟩] 9)).heap[w.heap.size]? = some (.cells #[.string ⟨x.toArray⟩, .string ⟨y.toArray⟩] 9) := heap_alloc_new w _
  match j, hj with
  | 0, hj => simp [sv] at hj; subst hj; simp only [World.cell?, hb]; rfl
  | 1, hj => simp [sv] at hj; subst hj; simp only [World.cell?, hb]; rfl
  | j + 2, hj => simp [sv] at hj
theorem flat_take {l : List (List UInt8)} {k : Nat} (h : k < l.length) : (l.take (k + 1)).flatten = (l.take k).flatten ++ l[k] := by
  rw [List.take_succ_eq_append_getElem h, List.flatten_append]; simp
theorem flat_le (l : List (List UInt8)) (k : Nat) : (l.take k).flatten.length ≤ l.flatten.length := by
  have := congrArg List.flatten (List.take_append_drop k l)
  rw [List.flatten_append] at this
  have := congrArg List.length this
  rw [List.length_append] at this
  omega
/-- the bytes of a text -/
theorem bytes_run (n : List UInt8) (w : World) : ∃ c w', (convert 9 32 (.string ⟨n.toArray⟩)).run Try.prog w = .ok (.slice (some ⟨w.heap.size, 0, none⟩) n.length c) w' ∧ Om 5 w.heap.size w' n ∧ n.length ≤ c ∧ Below w.heap.size w w' ∧ w'.heap.size = w.heap.size + 1 :=
  run_bytes 9 32 Try.underlying9 Try.underlying32 Try.underlying5 n w
/-- walks in any order whose deeds keep a relation T0 -/
structure Wy (T0 : World → World → Prop) (V : World) where
  nx : World
  ok : T0 V nx
def GY (T0 : World → World → Prop) := {V : Lw // ∀ v w w', V.led v w → T0 w w' → V.led v w'}
def yul (T0 : World → World → Prop) : List (Nat × GY T0) → Nat → Option Lw
  | [], _ => none
  | (k, V) :: l, s => if s = k then some V.1 else yul T0 l s
theorem yul_up (T0 : World → World → Prop) : ∀ (l : List (Nat × GY T0)) {s : Nat} {V : Lw}, yul T0 l s = some V → ∀ v w w', V.led v w → T0 w w' → V.led v w'
  | [], s, V, h => by cases h
  | (k, U) :: l, s, V, h => by
    unfold yul at h
    split at h
    · cases h; exact U.2
    · exact yul_up T0 l h
theorem yul_ck {T0 : World → World → Prop} (ht : ∀ a b c, T0 a b → T0 b c → T0 a c) {V : World} (l : List (Nat × GY T0)) : Ck T0 (fun w' => ∃ p : Wy T0 V, w' = p.nx) (yul T0 l) :=
  ⟨fun h k => ht _ _ _ h k, fun ⟨p, hp⟩ h => ⟨⟨_, ht _ _ _ p.ok (by subst hp; exact h)⟩, rfl⟩, fun {s V v w w'} h1 h2 h3 => yul_up T0 l h1 v w w' h2 h3⟩
def GY.is (T0 : World → World → Prop) (v : Value) : GY T0 := ⟨⟨(· = v), fun _ _ => True⟩, fun _ _ _ _ _ => trivial⟩
/-- the vault stays what it is; of the rows only its box is written -/
structure Tv (B b m : Nat) (f : List UInt8 → Option (List UInt8)) (w w' : World) : Prop where
  cb : CellsBut b w w'
  bl : Below B w w'
  vi : VaultIs B (fun _ => True) w b f m → VaultIs B (fun _ => True) w' b f m
theorem Tv.trans {B b m : Nat} {f : List UInt8 → Option (List UInt8)} (x y z : World) (h : Tv B b m f x y) (k : Tv B b m f y z) : Tv B b m f x z := ⟨h.cb.trans k.cb, h.bl.trans k.bl, fun v => k.vi (h.vi v)⟩
theorem Tv.below {B b m : Nat} {f : List UInt8 → Option (List UInt8)} {w w' : World} (h : Below w.heap.size w w') (hB : B ≤ w.heap.size) : Tv B b m f w w' := ⟨CellsBut.of_below h, h.mono hB, fun v => v.up h⟩
theorem Row.butNe {sz n b : Nat} {w w' : World} {v : Value} {vs : List Value} (h : Row sz (fun k => k ≠ b) w v n vs) (hk : CellsBut b w w') : Row sz (fun k => k ≠ b) w' v n vs := by
  obtain ⟨hl, a, c, rfl, hc, ha, H⟩ := h
  refine ⟨hl, a, c, rfl, hc, ha, fun j x hj => ?_⟩
  obtain ⟨b', o, ha, hB, hx⟩ := H j x hj
  refine ⟨b', o, ha, hB, ?_⟩
  simp only [World.cell?] at hx ⊢
  cases hh : w.heap[b']? with
  | none => rw [hh] at hx; cases hx
  | some ob =>
    rw [hh] at hx
    cases ob with
    | cells c e' fr' => rw [hk b' c e' fr' hB hh]; exact hx
    | _ => cases hx
def GY.bytes (B b m : Nat) (f : List UInt8 → Option (List UInt8)) (l : List UInt8) : GY (Tv B b m f) := ⟨⟨fun v => ∃ a c, v = .slice a l.length c, fun v w => Bs (fun k => k ≠ b) w v l⟩, fun _ _ _ h ht => ⟨h.1.butNe ht.cb, h.2⟩⟩
def GY.texts (B b m : Nat) (f : List UInt8 → Option (List UInt8)) (l : List (List UInt8)) : GY (Tv B b m f) := ⟨⟨fun v => ∃ a c, v = .slice a l.length c, fun v w => Ss (fun k => k ≠ b) w v l⟩, fun _ _ _ h ht => ⟨h.1.butNe ht.cb, h.2⟩⟩
theorem exec_texts {w : World} {o : Oper} {a : Act} {x y : Operand} {s t : ByteArray} (ho : o.op = .buildSlice 75 2 #[(0, x), (1, y)]) (hx : a.eval x = .string s) (hy : a.eval y = .string t) :
    (execOp a.eval o).run Try.prog w = .ok (.value (.slice (some ⟨w.heap.size, 0, none⟩) 2 2)) (w.alloc (.cells #[.string s, .string t] 9)) := by
  unfold execOp
  simp only [ho, List.map_toArray, List.map_cons, List.map_nil, hx, hy]
  simp [go_sem]
theorem ne_of_new {sz n b B : Nat} {w : World} {v : Value} {vs : List Value} (h : Row sz (fun k => B ≤ k) w v n vs) (hb : b < B) : Row sz (fun k => k ≠ b) w v n vs := h.monoS fun k hk => by have hk : B ≤ k := hk; omega
theorem tput_len_le' (l : List Th) (s b : List UInt8) : (tput l s b).length ≤ l.length + 1 := by
  rw [tput_len]
  unfold putN
  split <;> omega
theorem fld95 (q : Option Addr) (s : ByteArray) (w : World) : (Instr.field 95 (.agg #[.pointer q, .string s]) 1).run Try.prog w = .ok (.string s) w := by kernel_rfl
set_option maxRecDepth 100000 in
set_option maxHeartbeats 4000000 in
/-- groynelaw10.VaultShelves -/
theorem vaultShelves_any {A A' : Nat → Prop} {w : World} {v u : Value} {p : List UInt8} {ns ps : List (List UInt8)} (h : Ss A w v ns) (h' : Ss A' w u ps) (hp : p.length ≤ 1100000) (hps : ps.flatten.length ≤ 1100000) (hns : ∀ n ∈ ns, n.length ≤ 1100000) :
    Calls Try.prog 11 #[.string ⟨p.toArray⟩, v, u] w fun e w' => e = .returned (.bool true) ∧ Below w.heap.size w w' := by
  obtain ⟨na, nc, rfl, hnc, _, _⟩ := h.at
  obtain ⟨pa, pc, rfl, hpc, _, _⟩ := h'.at
  have HN := Hid.mk' h
  have HP := Hid.mk' h'
  have HNS := Hid.mk' hns
  have hnl : (ns.length : Int) ≤ 8796093021952 := by have : ns.length * 16 ≤ 140737488351232 := h.2; omega
  have hpl : (ps.length : Int) ≤ 8796093021952 := by have : ps.length * 16 ≤ 140737488351232 := h'.2; omega
  have hp' : (p.length : Int) ≤ 1100000 := by omega
  clear h h' hns
  go_enter Try.func11, Try.ntmps11
  go_wp2_with fail
  refine (awake10 w).mono ?_
  rintro e w1 ⟨rfl, h1⟩
  have H1 := Hid.mk' h1
  clear h1
  go_upto_if 24 with fail
  go_cut [1] (fun x wx => ∃ (a : Option Addr) (c : Nat) (ms : List (List UInt8)), x = .slice a ms.length c ∧ Hid (Ss A w1 x ms) ∧ ms.length ≤ 40 ∧ Hid (∀ n ∈ ms, n.length ≤ 1100000) ∧ Hid (w1 = wx))
  case first =>
    by_cases hlt : 40 < ns.length
    · have hlt' : (40 : Int) < (ns.length : Int) := by omega
      obtain ⟨a1, c1, S1, R1⟩ := row_hi (P := Try.prog) (t := 75) (by kernel_rfl) Try.size75 (HN.out.up H1.out).1 40 (by omega)
      have S1 : ∀ w, (Instr.slice 75 (.slice na ns.length nc) none (some (.int .i64 40)) none).run Try.prog w = .ok (.slice a1 40 c1) w := S1
      have HR : Hid (Ss A w1 (.slice a1 40 c1) (ns.take 40)) := by
        refine ⟨?_, by rw [List.length_take]; unfold lim; omega⟩
        have e1 : (ns.take 40).length = 40 := by rw [List.length_take]; omega
        have e2 : sv (ns.take 40) = (sv ns).take 40 := by simp [sv, List.map_take]
        rw [e1, e2]; exact R1
      have e1 : (ns.take 40).length = 40 := by rw [List.length_take]; omega
      have HE := Hid.mk' e1
      clear R1 e1 hlt
      go_wp2_with fail
      go_meet
      exact ⟨a1, c1, ns.take 40, by rw [HE.out], HR, by rw [HE.out]; exact Nat.le_refl _, fun n hn => HNS.out n (List.mem_of_mem_take hn), rfl⟩
    · have hlt' : ¬ (40 : Int) < (ns.length : Int) := by omega
      have HR := Hid.mk' (HN.out.up H1.out)
      go_wp2_with fail
      go_meet
      exact ⟨na, nc, ns, rfl, HR, by omega, HNS, rfl⟩
  case rest =>
    obtain ⟨a, c, ms, rfl, HM, hml, HMS, HWX⟩ := hcut
    obtain rfl := HWX.out
    clear HWX HN HNS hnc hnl
    go_wp2_with fail
    refine (new_any _).mono ?_
    rintro e w2 ⟨rfl, rfl⟩
    have V2 := Hid.mk' (vault_new w1)
    obtain ⟨w2, e2⟩ : ∃ w2, w2 = w1.alloc (.cells #[.map none] 81) := ⟨_, rfl⟩
    have Z2 : Hid (w2.heap.size = w1.heap.size + 1) := by rw [e2]; simp [Hid]
    have B2 : Hid (Below w1.heap.size w1 w2) := by rw [e2]; exact up_alloc _ _
    rw [← e2] at V2 ⊢
    clear e2
    obtain ⟨w3, e3⟩ : ∃ w3, w3 = w2.alloc (.cells #[.pointer (some ⟨w1.heap.size, 0, none⟩), .string ⟨p.toArray⟩] 95) := ⟨_, rfl⟩
    have B3 : Hid (Below w2.heap.size w2 w3) := by rw [e3]; exact up_alloc _ _
    have X3 : w3.heap[w2.heap.size]? = some (.cells #[.pointer (some ⟨w1.heap.size, 0, none⟩), .string ⟨p.toArray⟩] 95 (0, 0)) := by rw [e3]; exact heap_alloc_new w2 _
    have HSH : Hid (Sh w w1.heap.size w1.heap.size w2.heap.size p [] 0 w3) := ⟨bt (bt H1.out B2.out) B3.out, H1.out.size, (((V2.out.mono fun _ h => h.elim).congrF (g := tget []) (by funext s; rfl) rfl).up B3.out), by simp [Asc], Nat.le_refl _, by simp, by simp, X3, by have := Z2.out; omega⟩
    have HBS := Hid.mk' (bt B2.out B3.out)
    clear X3 V2
    go_wp2_with fail
    rw [← e3]
    clear e3
    go_loop [9, 34] (fun x i => ∃ k : Nat, k ≤ ps.length ∧ i = .int .i64 k ∧ x = .string ⟨(p ++ (ps.take k).flatten).toArray⟩) (fun _ i => ps.length - (intOf i).toNat)
    case atStart => exact ⟨0, by omega, rfl, by simp⟩
    case round =>
      obtain ⟨k, hk, rfl, rfl⟩ := hrel
      have HFL := Hid.mk' (flat_le ps k)
      by_cases hlt : k < ps.length
      · have hlt' : (k : Int) < (ps.length : Int) := by omega
        obtain ⟨_, _, ec, _, _, H⟩ := (HP.out.up (bt H1.out HBS.out)).at
        cases ec
        obtain ⟨b', o, rfl, _, hu⟩ := H k hlt
        have HFT := Hid.mk' (flat_take hlt)
        have HFL2 := Hid.mk' (flat_le ps (k + 1))
        clear H
        have e3 := ba_app (p ++ (ps.take k).flatten) ps[k]
        have hlen : (p ++ (ps.take k).flatten).length + ps[k].length ≤ 3000000 := by have := HFL2.out; rw [HFT.out, List.length_append] at this; rw [List.length_append]; omega
        have HE : Hid (p ++ (ps.take k).flatten ++ ps[k] = p ++ (ps.take (k + 1)).flatten) := by show _ = _; rw [HFT.out, List.append_assoc]
        have hlim : ¬ 9223372036854775807 < (p ++ (ps.take k).flatten).length + ps[k].length := by omega
        have e1 : (⟨(p ++ (ps.take k).flatten).toArray⟩ : ByteArray).size = (p ++ (ps.take k).flatten).length := by simp [ByteArray.size]
        have e2 : (⟨ps[k].toArray⟩ : ByteArray).size = ps[k].length := by simp [ByteArray.size]
        generalize ps[k] = y at *
        generalize p ++ (ps.take k).flatten = z at *
        go_wp2_with fail
        go_round
        case rel => exact ⟨k + 1, by omega, by go_num, by rw [← HE.out]⟩
        case measure => simp [intOf]; omega
      · obtain rfl : k = ps.length := by omega
        rw [List.take_length]
        obtain ⟨⟨x0, x1⟩, xf⟩ := cl2_get HSH.out.bx
        have HPA := Hid.mk' (path_any (b := w1.heap.size) p (HP.out.up (bt H1.out HBS.out)) (by omega))
        have hcmp : ((p ++ ps.flatten) != (p ++ ps.flatten)) = false := by simp
        have hcmp2 : (p != p) = false := by simp
        go_wp2_with fail
        refine HPA.out.mono ?_
        rintro e w4 ⟨rfl, b4⟩
        have HS4 := Hid.mk' (HSH.out.up b4)
        have HB4 := Hid.mk' (bt HBS.out b4)
        have HSB := Hid.mk' (sub_any (b := w1.heap.size) p (HP.out.up (bt H1.out HB4.out)) (by omega))
        clear b4 HPA x0 x1 xf
        obtain ⟨⟨x0, x1⟩, xf⟩ := cl2_get HS4.out.bx
        have hfl := fld95
        go_wp2_with fail
        refine HSB.out.mono ?_
        rintro e w5 ⟨rfl, b5⟩
        have HS5 := Hid.mk' (HS4.out.up b5)
        have HB5 := Hid.mk' (bt HB4.out b5)
        have HPN := Hid.mk' (path_any (A := fun _ => True) (b := w1.heap.size) (u := .slice none 0 0) (ps := []) (w := w5) p ss_nil (by simp; omega))
        clear b5 HSB x0 x1 xf
        obtain ⟨⟨x0, x1⟩, xf⟩ := cl2_get HS5.out.bx
        go_wp2_with fail
        refine HPN.out.mono ?_
        rintro e w6 ⟨rfl, b6⟩
        rw [List.flatten_nil, List.append_nil]
        have HS6 := Hid.mk' (HS5.out.up b6)
        have HB6 := Hid.mk' (bt HB5.out b6)
        have HNN : Hid (Ss (Lt w6.heap.size) w6 (.slice a ms.length c) ms) := ⟨(HM.out.up HB6.out).1.toLtN, HM.out.2⟩
        clear b6 HPN x0 x1 xf
        have T0 : Hid (Ts (Lt w6.heap.size) w6 (.slice none 0 0) []) := ⟨[], rfl, ⟨rfl, none, 0, rfl, Nat.le_refl _, fun _ => rfl, fun j u hj => by simp [tcs] at hj⟩, by simp, by simp⟩
        clear HSH HS4 HS5
        go_wp2_with fail
        go_loopw [12, 63] (fun x i wr => ∃ (k : Nat) (l : List Th), k ≤ ms.length ∧ i = .int .i64 k ∧ Hid (Sh w w1.heap.size w1.heap.size w2.heap.size p l k wr) ∧ Hid (Ts (Lt wr.heap.size) wr x l) ∧ Hid (Below w1.heap.size w6 wr)) (fun _ i _ => ms.length - (intOf i).toNat)
        case atStart => exact ⟨0, [], by omega, rfl, HS6, T0, Below.refl _ _⟩
        case round =>
          clear HS6 T0
          obtain ⟨k, l, hk, rfl, HS, HT, HB⟩ := hrel
          by_cases hlt : k < ms.length
          · have hlt' : (k : Int) < (ms.length : Int) := by omega
            obtain ⟨_, _, ec, _, _, H⟩ := (HM.out.up (HB6.out.trans HB.out)).at
            cases ec
            obtain ⟨b', o, rfl, _, hu⟩ := H k hlt
            have HNL : Hid (ms[k].length ≤ 1100000) := HMS.out _ (List.getElem_mem hlt)
            clear H
            generalize ms[k] = n at *
            obtain ⟨p4, n4, d4, e4, hn4⟩ : ∃ p n d, u12 = .slice p n d ∧ n = l.length := (let ⟨p, d, e, _⟩ := HT.out.at; ⟨p, _, d, e, rfl⟩)
            subst e4
            subst hn4
            have e3 := ba_app p n
            have hlen : p.length + n.length ≤ 3000000 := by have := HNL.out; omega
            have hlim : ¬ 9223372036854775807 < p.length + n.length := by omega
            have e1 : (⟨p.toArray⟩ : ByteArray).size = p.length := by simp [ByteArray.size]
            have e2 : (⟨n.toArray⟩ : ByteArray).size = n.length := by simp [ByteArray.size]
            have HPNL : Hid ((p ++ n).length ≤ 4000000) := by show _ ≤ _; rw [List.length_append]; omega
            obtain ⟨bc, wb, hrb, om, hbc, hbb, hbz⟩ := bytes_run n wr
            have OM : Hid (Bs (Lt wb.heap.size) wb (.slice (some ⟨wr.heap.size, 0, none⟩) n.length bc) n) := om.bs hbc (by have := HNL.out; unfold lim; omega)
            have HBB := Hid.mk' hbb
            have HRP := Hid.mk' (rput_any (p ++ n) (HT.out.up hbb) HS.out.asc OM.out (by have := HS.out.len; omega))
            clear om hbc hbb hbz
            go_wp2_with fail
            refine HRP.out.mono ?_
            rintro e w7 ⟨x7, rfl, t7, b7⟩
            obtain ⟨p7, n7, d7, e7, hn7⟩ : ∃ q m d, x7 = .slice q m d ∧ m = (tput l (p ++ n) n).length := (let ⟨p, d, e, _⟩ := t7.at; ⟨p, _, d, e, rfl⟩)
            subst e7
            subst hn7
            have HT7 := Hid.mk' t7.toLt
            have HB7 := Hid.mk' (bt HBB.out b7)
            have HS7 := Hid.mk' (HS.out.up HB7.out)
            clear t7 b7 HRP OM hrb HBB
            obtain ⟨bc8, w8, hrb, om, hbc, hbb, hbz⟩ := bytes_run n w7
            have U8 := up_alloc w8 (.cells #[.string ⟨n.toArray⟩] 9)
            have HS8 := Hid.mk' ((HS7.out.up hbb).up U8)
            have HT8 := Hid.mk' (((HT7.out.up hbb).up U8).toLt)
            have HB8 := Hid.mk' (bt HB7.out (bt hbb U8))
            have OM8 := Hid.mk' ((om.bs hbc (by have := HNL.out; unfold lim; omega)).up U8)
            have HST := Hid.mk' (store_any (u := .slice (some ⟨w8.heap.size, 0, none⟩) 1 1) (ps := [n]) p n HS8.out.vi (by have := HS.out.len; unfold maxLen; omega) (one_ss (w := w8) n) OM8.out (by simp; omega))
            have hff : [n].flatten = n := by simp
            rw [hff] at HST
            obtain ⟨⟨x0, x1⟩, xf⟩ := cl2_get HS7.out.bx
            have q0 := cell_later hbb x0
            have q1 := cell_later hbb x1
            have hc0 : putC (tget l) (p ++ n) n = 0 := inv_putC HS.out.inv
            clear om hbc hbb hbz U8 hff
            go_wp2_with fail
            refine HST.out.mono ?_
            rintro e w9 ⟨rfl, b9, k9, v9⟩
            rw [hc0]
            have HG9 : Hid (tget (tput l (p ++ n) n) (p ++ n) = some n) := inv_got HS.out.asc HS.out.inv
            have HX := HS8.out.vi.box
            obtain ⟨rx, hrx⟩ := HX
            have HS9 := Hid.mk' (HS8.out.put HPNL.out b9 k9 v9)
            have HT9 := Hid.mk' ((HT8.out.butV k9 hrx).toLt)
            have hle : w1.heap.size ≤ wr.heap.size := Nat.le_trans HB6.out.size HB.out.size
            have HB9 := Hid.mk' ((HB.out.trans (HB8.out.mono hle)).trans b9)
            clear b9 k9 v9 hrx HST HS7 HS8 HT7 HT8 x0 x1 xf q0 q1 hrb hle hc0
            obtain ⟨⟨x0, x1⟩, xf⟩ := cl2_get HS9.out.bx
            have U9 := up_alloc w9 (.cells #[.string ⟨n.toArray⟩] 9)
            have HU9 := Hid.mk' U9
            have HFE := Hid.mk' (fetch_any (b := w1.heap.size) (u := .slice (some ⟨w9.heap.size, 0, none⟩) 1 1) (ps := [n]) p (HS9.out.vi.up U9) (one_ss (w := w9) n) (by simp; omega))
            have hff : [n].flatten = n := by simp
            rw [hff] at HFE
            clear U9 hff
            go_wp2_with fail
            refine HFE.out.mono ?_
            rintro e w10 ⟨v10, rfl, b10, o10⟩
            have hg10 : getC (tget (tput l (p ++ n) n)) (p ++ n) = 0 := by unfold getC; rw [HG9.out]
            have hf10 : (tget (tput l (p ++ n) n) (p ++ n)).getD [] = n := by rw [HG9.out]; rfl
            rw [hg10]
            rw [hf10] at o10
            obtain ⟨a10, c10, rfl⟩ := own_slice o10
            have HS10 := Hid.mk' (HS9.out.up (bt HU9.out b10))
            have HT10 := Hid.mk' ((HT9.out.up (bt HU9.out b10)).toLt)
            have HB10 := Hid.mk' (HB9.out.trans ((bt HU9.out b10).mono (Nat.le_trans HB6.out.size HB9.out.size)))
            have hstr := run_str (P := Try.prog) 32 9 Try.underlying32 Try.underlying5 Try.underlying9 (o10.bs (by have := HNL.out; unfold lim; omega))
            have hcn : (n != n) = false := by simp
            clear o10 b10 HFE hg10 hf10 x0 x1 xf HS9 HT9 HU9
            obtain ⟨⟨x0, x1⟩, xf⟩ := cl2_get HS10.out.bx
            by_cases hn1 : 1 < n.length
            · have hn1' : (1 : Int) < (n.length : Int) := by omega
              have hd1 : decide (1 < n.length) = true := by simpa using hn1
              have hd2 : decide ((1 : Int) < (n.length : Int)) = true := decide_eq_true hn1'
              go_wp2_with fail
              have hbz : w1.heap.size < w10.heap.size := by obtain ⟨r, hr⟩ := HS10.out.vi.box; exact (Array.getElem?_eq_some_iff.1 hr).1
              have r0 : ∀ q : Wy (Tv w1.heap.size w1.heap.size (tput l (p ++ n) n).length (tget (tput l (p ++ n) n))) w10, q.nx.cell? ⟨w2.heap.size, 0, none⟩ = some _ := fun q => (cl2_get (q.ok.cb _ _ _ _ HS10.out.ne HS10.out.bx)).1.1
              have r1 : ∀ q : Wy (Tv w1.heap.size w1.heap.size (tput l (p ++ n) n).length (tget (tput l (p ++ n) n))) w10, q.nx.cell? ⟨w2.heap.size, 1, none⟩ = some _ := fun q => (cl2_get (q.ok.cb _ _ _ _ HS10.out.ne HS10.out.bx)).1.2
              have s1 := ba_take n 1
              have hinh : Inhabited (Wy (Tv w1.heap.size w1.heap.size (tput l (p ++ n) n).length (tget (tput l (p ++ n) n))) w10) := ⟨⟨w10, Tv.below (Below.refl _ _) (Nat.le_of_lt hbz)⟩⟩
              have s2 := ba_drop n 1
              refine wp_region_free 15 (Tv w1.heap.size w1.heap.size (tput l (p ++ n) n).length (tget (tput l (p ++ n) n))) (fun w' => ∃ q : Wy (Tv w1.heap.size w1.heap.size (tput l (p ++ n) n).length (tget (tput l (p ++ n) n))) w10, w' = q.nx) (yul _ [(105, GY.bytes _ _ _ _ n), (110, GY.texts _ _ _ _ [n.take 1, n.tail]), (111, GY.is _ (.int .i64 0))]) (by kernel_rfl) (by kernel_rfl) (yul_ck Tv.trans _) ⟨⟨w10.drew, Tv.below (drew_blx _ _) (Nat.le_of_lt hbz)⟩, rfl⟩ ?_
              simp only [List.take_succ_cons, List.take_zero, List.drop_succ_cons, List.drop_zero]
              refine wf_take 6 rfl ?_
              simp only [List.take_succ_cons, List.take_zero, List.drop_succ_cons, List.drop_zero]
              repeat (go_big_quiet_step (fail))
              refine wpQuiet_nil ?_
              refine wf_make (V := (GY.bytes w1.heap.size w1.heap.size (tput l (p ++ n) n).length (tget (tput l (p ++ n) n)) n).1) (by kernel_rfl) rfl (fun wq hC hK => ?_) (fun u1 hu1 => ?_)
              · obtain ⟨q, rfl⟩ := hC
                obtain ⟨bc11, w11, hrb, om, hbc, hbb, hbz'⟩ := bytes_run n q.nx
                have hqs : w1.heap.size < q.nx.heap.size := by obtain ⟨r, hr⟩ := (q.ok.vi HS10.out.vi).box; exact (Array.getElem?_eq_some_iff.1 hr).1
                refine ⟨_, w11, run_v hrb, Tv.below hbb (Nat.le_of_lt hqs), ⟨_, _, rfl⟩, ?_⟩
                have h1 := om.bs hbc (by have := HNL.out; unfold lim; omega)
                refine ⟨?_, h1.2⟩
                obtain ⟨hl1, a1, c1, e1, hc1, ha1, H1'⟩ := h1.1
                cases e1
                refine ⟨hl1, _, _, rfl, hc1, ha1, fun j x hj => ?_⟩
                obtain ⟨b3, o3, e3, _, h3⟩ := H1' j x hj
                cases e3
                exact ⟨_, _, rfl, by omega, h3⟩
              obtain ⟨pa1, ca1, rfl⟩ := hu1
              simp only [Act.put, List.setIfInBounds_toArray, List.set_cons_succ, List.set_cons_zero]
              refine wf_take 4 rfl ?_
              simp only [List.take_succ_cons, List.take_zero, List.drop_succ_cons, List.drop_zero]
              repeat (go_big_quiet_step (fail))
              refine wpQuiet_nil ?_
              refine wf_make (V := (GY.texts w1.heap.size w1.heap.size (tput l (p ++ n) n).length (tget (tput l (p ++ n) n)) [n.take 1, n.tail]).1) (by kernel_rfl) rfl (fun wq hC hK => ?_) (fun u1 hu1 => ?_)
              · obtain ⟨q, rfl⟩ := hC
                have hqs : w1.heap.size < q.nx.heap.size := by obtain ⟨r, hr⟩ := (q.ok.vi HS10.out.vi).box; exact (Array.getElem?_eq_some_iff.1 hr).1
                refine ⟨_, _, exec_texts rfl rfl rfl, Tv.below (up_alloc _ _) (Nat.le_of_lt hqs), ⟨_, _, rfl⟩, ?_⟩
                have h1 := ss_two (w := q.nx) (n.take 1) n.tail
                refine ⟨?_, h1.2⟩
                obtain ⟨hl1, a1, c1, e1, hc1, ha1, H1'⟩ := h1.1
                cases e1
                refine ⟨hl1, _, _, rfl, hc1, ha1, fun j x hj => ?_⟩
                obtain ⟨b3, o3, e3, _, h3⟩ := H1' j x hj
                cases e3
                exact ⟨_, _, rfl, by omega, h3⟩
              obtain ⟨pa2, ca2, rfl⟩ := hu1
              simp only [Act.put, List.setIfInBounds_toArray, List.set_cons_succ, List.set_cons_zero]
              refine wf_call (V := (GY.is (Tv w1.heap.size w1.heap.size (tput l (p ++ n) n).length (tget (tput l (p ++ n) n))) (.int .i64 0)).1) (vals := [.agg #[.pointer (some ⟨w1.heap.size, 0, none⟩), .string ⟨p.toArray⟩], .slice pa1 n.length ca1, .slice pa2 ([n.take 1, n.tail] : List (List UInt8)).length ca2]) Try.func58 (by kernel_rfl) rfl rfl (by kernel_rfl) (by kernel_rfl) (by kernel_rfl) (fun wq hC hK => ?_) (fun u1 hu1 => ?_)
              · obtain ⟨q, rfl⟩ := hC
                have k1 := hK 105 _ _ (looks_of (by kernel_rfl)) (.inl (.inr ⟨rfl, rfl⟩)) rfl
                have k2 := hK 110 _ _ (looks_of (by kernel_rfl)) (.inr ⟨rfl, rfl⟩) rfl
                have hvi := q.ok.vi HS10.out.vi
                have hfl2 : ([n.take 1, n.tail] : List (List UInt8)).flatten = n := by cases n <;> simp
                have hst := store_any p n hvi (by have := tput_len_le' l (p ++ n) n; have := HS.out.len; unfold maxLen; omega) k2 k1 (by rw [hfl2]; omega)
                rw [hfl2] at hst
                obtain ⟨e1, e2, e3⟩ := put_there2 HG9.out (tput l (p ++ n) n).length
                refine hst.mono fun e w' hpo => ?_
                obtain ⟨h1, h2, h3, h4⟩ := hpo
                rw [e3] at h1
                exact ⟨_, h1, ⟨h3, h2, fun _ => (h4.mono fun _ _ => trivial).congrF e1 e2⟩, rfl, trivial⟩
              obtain rfl : u1 = .int .i64 0 := hu1
              simp only [Act.put, List.setIfInBounds_toArray, List.set_cons_succ, List.set_cons_zero]
              refine wf_take 2 rfl ?_
              simp only [List.take_succ_cons, List.take_zero, List.drop_succ_cons, List.drop_zero]
              repeat (go_big_quiet_step (fail))
              refine wpQuiet_nil ?_
              intro w12 hC hK
              clear hK
              obtain ⟨q, rfl⟩ := hC
              have HQ := Hid.mk' q.ok
              clear r0 r1 s1 s2 x0 x1 xf hbz
              generalize q.nx = w12 at *
              clear q
              have HS12 : Hid (Sh w w1.heap.size w1.heap.size w2.heap.size p (tput l (p ++ n) n) (k + 1) w12) := ⟨HS10.out.bl.trans (HQ.out.bl.mono HS10.out.B0), HS10.out.B0, HQ.out.vi HS10.out.vi, HS10.out.asc, HS10.out.len, HS10.out.nm, HS10.out.inv, HQ.out.cb _ _ _ _ HS10.out.ne HS10.out.bx, HS10.out.ne⟩
              have HT12 : Hid (Ts (Lt w12.heap.size) w12 (.slice p7 (tput l (p ++ n) n).length d7) (tput l (p ++ n) n)) := by
                obtain ⟨r, hr⟩ := HS10.out.vi.box
                exact (HT10.out.butV HQ.out.cb hr).toLt
              have HB12 := Hid.mk' (HB10.out.trans HQ.out.bl)
              go_wp2_with fail
              go_roundw
              case rel => exact ⟨k + 1, tput l (p ++ n) n, by omega, by go_num, HS12, HT12, HB12⟩
              case measure => simp [intOf]; omega
            · have hn1' : ¬ (1 : Int) < (n.length : Int) := by omega
              have hd1 : decide (1 < n.length) = false := by simpa using hn1
              have hd2 : decide ((1 : Int) < (n.length : Int)) = false := decide_eq_false hn1'
              go_wp2_with fail
              have r0 : ∀ m, (w10.drewN m).cell? ⟨w2.heap.size, 0, none⟩ = some _ := fun _ => x0
              have r1 : ∀ m, (w10.drewN m).cell? ⟨w2.heap.size, 1, none⟩ = some _ := fun _ => x1
              clear x0 x1 xf
              go_quiet (fail)
              clear r0 r1
              have HD : Hid (∀ m, Below w10.heap.size w10 (w10.drewN m)) := fun m => ((Dn.refl w10).more m).below _
              go_wp2_with fail
              go_roundw
              case rel => exact ⟨k + 1, tput l (p ++ n) n, by omega, by go_num, HS10.out.up (HD.out _), HT10.out.up (HD.out _), HB10.out.trans ((HD.out _).mono (Nat.le_trans HB6.out.size HB10.out.size))⟩
              case measure => simp [intOf]; omega
          · have hlt' : ¬ (k : Int) < (ms.length : Int) := by omega
            have hk40 : k ≤ 40 := by omega
            obtain ⟨p4, n4, d4, e4, hn4⟩ : ∃ p n d, u12 = .slice p n d ∧ n = l.length := (let ⟨p, d, e, _⟩ := HT.out.at; ⟨p, _, d, e, rfl⟩)
            subst e4
            subst hn4
            have hFL : (p ++ ps.flatten).length ≤ 3000000 := by rw [List.length_append]; omega
            have HRL := Hid.mk' (rlist_any (p ++ ps.flatten) HT.out (by unfold maxLen; omega) (fun t ht => by have := HS.out.nm t ht; unfold maxLen; omega))
            have HLL : Hid ((tlist l (p ++ ps.flatten)).length ≤ 40) := by have := tlist_len l (p ++ ps.flatten) l.length; rw [List.take_length] at this; have := HS.out.len; show _ ≤ _; omega
            have HPF : Hid (∀ x ∈ tlist l (p ++ ps.flatten), p.length ≤ x.length ∧ x.length ≤ 4000000) := fun x hx => ⟨tlist_pfx hx, by
              obtain ⟨t, ht, rfl⟩ := List.mem_map.1 (List.mem_filter.1 hx).1
              exact HS.out.nm t ht⟩
            clear hlt hFL
            go_wp2_with fail
            refine HRL.out.mono ?_
            rintro e w7 ⟨x7, rfl, o7, b7⟩
            obtain ⟨p7, d7, rfl⟩ := o7.slice
            have HO7 := Hid.mk' o7
            have HB7 := Hid.mk' b7
            clear o7 b7 HRL
            obtain ⟨L, hL⟩ : ∃ L, L = tlist l (p ++ ps.flatten) := ⟨_, rfl⟩
            rw [← hL] at HO7 HLL HPF ⊢
            have HLE := Hid.mk' hL
            clear hL
            have hll : (L.length : Int) ≤ 40 := by have := HLL.out; omega
            have e1 : (⟨p.toArray⟩ : ByteArray).size = p.length := by simp [ByteArray.size]
            go_wp2_with fail
            go_loopw [17, 119] (fun x i wr => ∃ k : Nat, k ≤ L.length ∧ i = .int .i64 k ∧ Hid (So 9 w7.heap.size wr x ((L.take k).map (·.drop p.length))) ∧ Hid (Below w7.heap.size w7 wr)) (fun _ i _ => L.length - (intOf i).toNat)
            case atStart => exact ⟨0, by omega, rfl, so_nil, Below.refl _ _⟩
            case round =>
              obtain ⟨k, hk, rfl, HO, HBR⟩ := hrel
              by_cases hlt : k < L.length
              · have hlt' : (k : Int) < (L.length : Int) := by omega
                have HSS := (HO7.out.ss (by have := HLL.out; unfold lim; omega)).up HBR.out
                obtain ⟨_, _, ec, _, _, H⟩ := HSS.at
                cases ec
                obtain ⟨b', o, rfl, _, hu⟩ := H k hlt
                obtain ⟨g1, g2⟩ := HPF.out _ (List.getElem_mem hlt)
                have HTT : Hid ((L.take (k + 1)).map (·.drop p.length) = (L.take k).map (·.drop p.length) ++ [L[k].drop p.length]) := by show _ = _; rw [List.take_succ_eq_append_getElem hlt, List.map_append]; rfl
                clear H HSS
                generalize L[k] = x at *
                have e2 : (⟨x.toArray⟩ : ByteArray).size = x.length := by simp [ByteArray.size]
                have e3 := ba_drop x p.length
                have g1' : (p.length : Int) ≤ (x.length : Int) := by omega
                have g2' : (x.length : Int) ≤ 4000000 := by omega
                have HKL : Hid (((L.take k).map (·.drop p.length)).length ≤ 40) := by show _ ≤ _; rw [List.length_map, List.length_take]; have := HLL.out; omega
                have HBO : Hid (w7.heap.size ≤ wr.heap.size) := HBR.out.size
                go_wp2_with (at_builtin; go_must (refine app75 (v := u17) rfl (.tmp 123) (.tmp 128) rfl rfl (HO.out.alloc _) rfl (one_ss (x.drop p.length)) (by have := HKL.out; simp only [List.length_singleton]; unfold lim; omega) (by have := HBO.out; simp; omega) ?_); intro v5 w5 ho5 hg5; have HO5 := Hid.mk' ho5; have HB5 := Hid.mk' (below_appS (B0 := w7.heap.size) (HBR.out.trans ((up_alloc wr _).mono HBR.out.size)) (HO.out.alloc _) hg5 (Nat.le_refl _) (Nat.le_trans HBO.out (up_alloc wr _).size)); clear ho5 hg5)
                go_roundw
                case rel => exact ⟨k + 1, by omega, by go_num, by rw [HTT.out]; exact HO5, HB5⟩
                case measure => simp [intOf]; omega
              · obtain rfl : k = L.length := by omega
                rename World => wv
                have HSV := Hid.mk' (HS.out.up (bt HB7.out HBR.out))
                obtain ⟨⟨x0, x1⟩, xf⟩ := cl2_get HSV.out.bx
                have HPV : Hid (Ss A' wv (.slice pa ps.length pc) ps) := HP.out.up HSV.out.bl
                have HNM := Hid.mk' (names_any p HSV.out.vi HSV.out.asc (by have := HSV.out.len; omega) HPV.out (by omega) (fun t ht => by have := HSV.out.nm t ht; unfold maxLen; omega))
                go_wp2_with fail
                refine HNM.out.mono ?_
                rintro e w8 ⟨x8, rfl, o8, b8⟩
                rw [← HLE.out] at o8
                have HO8 := HO.out.up b8
                rw [List.take_length] at HO8
                have HML : Hid ((L.map (·.drop p.length)).length ≤ 40) := by show _ ≤ _; rw [List.length_map]; exact HLL.out
                generalize L.map (·.drop p.length) = M at *
                obtain ⟨p8, d8, rfl⟩ := o8.slice
                obtain ⟨p9, d9, e9⟩ := HO8.slice
                subst e9
                have hml2 : M.length * 16 ≤ lim := by have := HML.out; unfold lim; omega
                have HSM := same10_any (o8.ss hml2) (HO8.ss hml2)
                rw [beq_self_eq_true] at HSM
                have HSM := Hid.mk' HSM
                have HS8 := Hid.mk' (HSV.out.up b8)
                clear o8 b8 HNM HO8 x0 x1 xf
                go_wp2_with fail
                refine HSM.out.mono ?_
                rintro e w9 ⟨rfl, hd9⟩
                have HS9 := Hid.mk' (HS8.out.up (hd9.below _))
                have HCN := Hid.mk' (count_any HS9.out.vi)
                clear hd9
                go_wp2_with fail
                refine HCN.out.mono ?_
                rintro e w10 ⟨rfl, rfl⟩
                go_wp2_with fail
                go_ret
                exact ⟨by simp, HS9.out.bl⟩
end Go.Proofs.Ytfmbbpfklhkljaa
