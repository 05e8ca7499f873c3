/- groynelaw10.VaultCalls. -/
import Derived.Test.YtfmbbpfklhkljaaVE
import Derived.Test.YtfmbbpfklhkljaaA2
import Derived.Test.YtfmbbpfklhkljaaFA
import Derived.StillTailTactics
set_option linter.unusedVariables false
set_option linter.unusedSimpArgs false
namespace Go.Proofs.Ytfmbbpfklhkljaa
open Go.RowKit
structure Ac where
  kind : Int
  name : List UInt8
  dest : List UInt8
  data : List UInt8
abbrev Aq := Ac × Value
def ac (q : Aq) : List Value := [.int .i64 q.1.kind, .string ⟨q.1.name.toArray⟩, .string ⟨q.1.dest.toArray⟩, q.2]
def acs (L : List Aq) : List Value := (L.map ac).flatten
theorem acs_four (L : List Aq) : ∀ c ∈ L.map ac, c.length = 4 := by
  intro c hc; obtain ⟨q, _, rfl⟩ := List.mem_map.1 hc; rfl
theorem acs_get (L : List Aq) (i : Nat) (h : i < L.length) : (acs L)[i * 4]? = some (.int .i64 L[i].1.kind) ∧ (acs L)[i * 4 + 1]? = some (.string ⟨L[i].1.name.toArray⟩) ∧ (acs L)[i * 4 + 2]? = some (.string ⟨L[i].1.dest.toArray⟩) ∧ (acs L)[i * 4 + 3]? = some L[i].2 := by
  unfold acs
  rw [flatten_get (by decide) _ (acs_four L), flatten_get (by decide) _ (acs_four L), flatten_get (by decide) _ (acs_four L), flatten_get (by decide) _ (acs_four L)]
  rw [show i * 4 / 4 = i by omega, show (i * 4 + 1) / 4 = i by omega, show (i * 4 + 2) / 4 = i by omega, show (i * 4 + 3) / 4 = i by omega, show i * 4 % 4 = 0 by omega, show (i * 4 + 1) % 4 = 1 by omega, show (i * 4 + 2) % 4 = 2 by omega, show (i * 4 + 3) % 4 = 3 by omega]
  simp [h, ac]
/-- v reads as the acts l -/
def As (A : Nat → Prop) (w : World) (v : Value) (l : List Ac) : Prop := ∃ L : List Aq, L.map (·.1) = l ∧ Row 4 A w v L.length (acs L) ∧ (∀ q ∈ L, Bs A w q.2 q.1.data ∧ q.1.name.length ≤ maxLen ∧ q.1.dest.length ≤ maxLen) ∧ L.length * 56 ≤ lim
theorem As.up {A : Nat → Prop} {w w' : World} {v : Value} {l : List Ac} (h : As A w v l) (hb : Below w.heap.size w w') : As A w' v l := by
  obtain ⟨L, h1, h2, h3, h4⟩ := h
  exact ⟨L, h1, h2.up hb, fun q hq => ⟨(h3 q hq).1.up hb, (h3 q hq).2⟩, h4⟩
theorem As.at {A : Nat → Prop} {w : World} {v : Value} {l : List Ac} (h : As A w v l) : ∃ (a : Option Addr) (c : Nat), v = .slice a l.length c ∧ l.length ≤ c ∧ (a = none → c = 0) ∧ l.length * 56 ≤ lim ∧
    ∀ j (hj : j < l.length), ∃ b o u, a = some ⟨b, o, none⟩ ∧ w.cell? ⟨b, o + j * 4, none⟩ = some (.int .i64 l[j].kind) ∧ w.cell? ⟨b, o + j * 4 + 1, none⟩ = some (.string ⟨l[j].name.toArray⟩) ∧ w.cell? ⟨b, o + j * 4 + 2, none⟩ = some (.string ⟨l[j].dest.toArray⟩) ∧ w.cell? ⟨b, o + j * 4 + 3, none⟩ = some u ∧ Bs A w u l[j].data ∧ l[j].name.length ≤ maxLen ∧ l[j].dest.length ≤ maxLen := by
  obtain ⟨L, rfl, ⟨hl, a, c, hv, hc, ha, H⟩, h3, h4⟩ := h
  refine ⟨a, c, by rw [hv, List.length_map], by rw [List.length_map]; exact hc, ha, by rw [List.length_map]; exact h4, fun j hj => ?_⟩
  have hj' : j < L.length := by simpa using hj
  obtain ⟨g0, g1, g2, g3⟩ := acs_get L j hj'
  obtain ⟨b, o, rfl, e2, e0⟩ := H _ _ g0
  obtain ⟨_, _, k1, _, e1⟩ := H _ _ g1
  cases k1
  obtain ⟨_, _, k2, _, e2⟩ := H _ _ g2
  cases k2
  obtain ⟨_, _, k3, _, e3⟩ := H _ _ g3
  cases k3
  have := h3 L[j] (List.getElem_mem hj')
  have f0 : w.cell? ⟨b, o + j * 4, none⟩ = some (.int .i64 L[j].1.kind) := e0
  have f1 : w.cell? ⟨b, o + j * 4 + 1, none⟩ = some (.string ⟨L[j].1.name.toArray⟩) := e1
  have f2 : w.cell? ⟨b, o + j * 4 + 2, none⟩ = some (.string ⟨L[j].1.dest.toArray⟩) := e2
  exact ⟨b, o, L[j].2, rfl, by simpa using f0, by simpa using f1, by simpa using f2, e3, by simpa using this.1, by simpa using this.2.1, by simpa using this.2.2⟩
theorem Row.andLt {sz : Nat} {n : Nat} {A : Nat → Prop} {w : World} {v : Value} {vs : List Value} (h : Row sz A w v n vs) : Row sz (fun k => A k ∧ k < w.heap.size) w v n vs := by
  obtain ⟨hl, a, c, rfl, hc, ha, H⟩ := h
  refine ⟨hl, a, c, rfl, hc, ha, fun j u hj => ?_⟩
  obtain ⟨b, o, h1, h2, h3⟩ := H j u hj
  exact ⟨b, o, h1, ⟨h2, World.block_lt_of_cell? w ⟨b, o + j, none⟩ h3⟩, h3⟩
theorem Ts.andLt {A : Nat → Prop} {w : World} {v : Value} {l : List Th} (h : Ts A w v l) : Ts (fun k => A k ∧ k < w.heap.size) w v l := by
  obtain ⟨L, h1, h2, h3, h4⟩ := h
  exact ⟨L, h1, h2.andLt, fun q hq => ⟨(h3 q hq).1.andLt, (h3 q hq).2⟩, h4⟩
theorem Ts.but {b : Nat} {A : Nat → Prop} {w w' : World} {v : Value} {l : List Th} (h : Ts A w v l) (hk : CellsBut b w w') {r : Option Nat} {e : TypeId} {fr : Nat × Nat} (hb : w.heap[b]? = some (.cells #[.map r] e fr)) : Ts A w' v l := by
  obtain ⟨L, h1, h2, h3, h4⟩ := h
  refine ⟨L, h1, h2.but hk hb fun hm => ?_, fun q hq => (h3 q hq).but hk hb, h4⟩
  unfold tcs at hm
  obtain ⟨c, hc, hm⟩ := List.mem_flatten.1 hm
  obtain ⟨q, hq, rfl⟩ := List.mem_map.1 hc
  simp only [tc, List.mem_cons, List.not_mem_nil, or_false] at hm
  rcases hm with hm | hm
  · cases hm
  · obtain ⟨a, c, e, _⟩ := (h3 q hq).at
    rw [← hm] at e; cases e
/-- how things stand: the vault in block b, the list of things at x -/
structure Vst (w : World) (B b : Nat) (x : Value) (l : List Th) (N : Nat) (wr : World) : Prop where
  bl : Below w.heap.size w wr
  B0 : w.heap.size ≤ B
  vi : VaultIs B (fun _ => True) wr b (tget l) l.length
  ts : Ts (Lt wr.heap.size) wr x l
  asc : Asc l
  len : l.length ≤ N
  nm : ∀ t ∈ l, t.1.length ≤ maxLen
theorem Vst.up {w wr wr' : World} {B b N : Nat} {x : Value} {l : List Th} (h : Vst w B b x l N wr) (hb : Below wr.heap.size wr wr') : Vst w B b x l N wr' :=
  ⟨bt h.bl hb, h.B0, h.vi.up hb, (h.ts.up hb).monoS fun k hk => Nat.lt_of_lt_of_le hk hb.size, h.asc, h.len, h.nm⟩
/-- the act's box -/
def Bq (bx : Nat) (a : Ac) (dv : Value) (w : World) : Prop := w.heap[bx]? = some (.cells #[.int .i64 a.kind, .string ⟨a.name.toArray⟩, .string ⟨a.dest.toArray⟩, dv] 84 (0, 0))
theorem Bq.up {bx : Nat} {a : Ac} {dv : Value} {w w' : World} (h : Bq bx a dv w) (hb : Below w.heap.size w w') : Bq bx a dv w' := by
  unfold Bq at *
  rw [hb.block bx (Array.getElem?_eq_some_iff.1 h).1]; exact h
/-- a row of bytes is written over that is neither the vault's nor the list's -/
theorem Vst.over {w wr wr' : World} {B b N : Nat} {x v : Value} {l : List Th} {m : List UInt8} {V A : Nat → Prop} {D : Nat} (h1 : Below w.heap.size w wr) (hB : w.heap.size ≤ B) (h2 : VaultIs B V wr b (tget l) l.length) (h3 : Ts A wr x l) (h4 : Asc l) (h5 : l.length ≤ N) (h6 : ∀ t ∈ l, t.1.length ≤ maxLen) (ho : Ob 5 D wr v m) (hD : w.heap.size ≤ D)
    (hV : ∀ k, v.ownBlock = some k → ¬ V k ∧ ¬ A k) (hw : Wb (fun k => v.ownBlock = some k) wr wr') : Vst w B b x l N wr' := by
  refine ⟨h1.trans (hw.below h1.size fun k hk => Nat.le_trans hD (ho.lt k hk).1), hB, (h2.fr (X := fun k => v.ownBlock = some k) (fun k hk hn => hw.block k hk hn) fun k hk => ⟨(hV k hk).1, ?_⟩).mono fun _ _ => trivial, ?_, h4, h5, h6⟩
  · obtain ⟨_, cur, fr, h⟩ := own_typed ho k hk
    exact ⟨cur, 5, fr, h, by decide⟩
  · have h7 : Ts (fun k => A k ∧ k < wr.heap.size) wr' x l := h3.andLt.keepS fun k hk => hw.block k hk.2 fun hx => (hV k hx).2 hk.1
    exact h7.monoS fun k hk => Nat.lt_of_lt_of_le hk.2 hw.size
theorem VaultIs.congrN {B b n m : Nat} {V : Nat → Prop} {w : World} {f : List UInt8 → Option (List UInt8)} (h : VaultIs B V w b f n) (e : n = m) : VaultIs B V w b f m := by rw [← e]; exact h
theorem tput_len_le (l : List Th) (s b : List UInt8) : (tput l s b).length ≤ l.length + 1 := by
  rw [tput_len]
  unfold putN
  split <;> omega
theorem two_ss {w : World} (x y : List UInt8) : Ss (Lt (w.heap.size + 1)) (w.alloc (.cells #[.string ⟨x.toArray⟩, .string ⟨y.toArray⟩] 9)) (.slice (some ⟨w.heap.size, 0, none⟩) 2 2) [x, y] := by
  refine ⟨⟨rfl, _, _, rfl, Nat.le_refl _, by simp, fun j u hj => ⟨_, _, rfl, Nat.lt_succ_self _, ?_⟩⟩, by unfold lim; simp⟩
  have hb : (w.alloc (.cells #[.string ⟨x.toArray⟩, .string ⟨y.toArray⟩] 9)).heap[w.heap.size]? = some (.cells #[.string ⟨x.toArray⟩, .string ⟨y.toArray⟩] 9) := heap_alloc_new w _
  match j, hj with
  | 0, hj => simp [sv] at hj; subst hj; simp only [World.cell?, hb]; rfl
  | 1, hj => simp [sv] at hj; subst hj; simp only [World.cell?, hb]; rfl
  | j + 2, hj => simp [sv] at hj
theorem list_tl {B b : Nat} {V : Nat → Prop} {w : World} {l : List Th} (p : List UInt8) (hI : VaultIs B V w b (tget l) l.length) (hA : Asc l) (hp : p.length ≤ maxLen) (hn : l.length ≤ 1000000) :
    Calls Try.prog 48 #[.pointer (some ⟨b, 0, none⟩), .string ⟨p.toArray⟩] w fun e w' => ∃ u, e = .returned u ∧ So 9 w.heap.size w' u (tlist l p) ∧ Below w.heap.size w w' :=
  (list_any p hI hp hn).mono fun e w' ⟨v', L, h1, h2, h3, h4⟩ => ⟨v', h1, by rw [keys_list h2 (fun _ => rfl) hA] at h3; exact h3, h4⟩
def UL.strs (l : List (List UInt8)) : UL := ⟨⟨fun v => ∃ a c, v = .slice a l.length c, fun v w => Ss (Lt w.heap.size) w v l⟩, fun v w w' h hb => ⟨(h.1.up hb).monoS fun k hk => Nat.lt_of_lt_of_le hk hb.size, h.2⟩⟩
theorem strs_free {P : Program} {f : FuncId} {args : Array Value} {w : World} {l : List (List UInt8)} {B : Nat} (hl : l.length * 16 ≤ lim) (h : Calls P f args w fun e w' => ∃ u, e = .returned u ∧ So 9 B w' u l ∧ Below w.heap.size w w') : Calls P f args w fun e w'' => ∃ u, e = .returned u ∧ Up w w'' ∧ (UL.strs l).1.one u ∧ (UL.strs l).1.led u w'' :=
  h.mono fun _ _ ⟨u, h1, h2, h3⟩ => ⟨u, h1, h3, h2.slice, h2.ss hl⟩
theorem is_free' {P : Program} {f : FuncId} {args : Array Value} {w : World} {v : Value} (h : Calls P f args w fun e w' => e = .returned v ∧ w = w') : Calls P f args w fun e w'' => ∃ u, e = .returned u ∧ Up w w'' ∧ (UL.is v).1.one u ∧ (UL.is v).1.led u w'' :=
  h.mono fun _ _ ⟨h1, h2⟩ => ⟨v, h1, by subst h2; exact Below.refl _ _, rfl, trivial⟩
theorem is_free_dn' {P : Program} {f : FuncId} {args : Array Value} {w : World} {v : Value} (h : Calls P f args w fun e w' => e = .returned v ∧ Dn w w') : Calls P f args w fun e w'' => ∃ u, e = .returned u ∧ Up w w'' ∧ (UL.is v).1.one u ∧ (UL.is v).1.led u w'' :=
  h.mono fun _ _ ⟨h1, h2⟩ => ⟨v, h1, h2.below _, rfl, trivial⟩
set_option maxRecDepth 100000 in
set_option maxHeartbeats 4000000 in
/-- groynelaw10.VaultCalls -/
theorem vaultCalls_any {A : Nat → Prop} {w : World} {v : Value} {acts : List Ac} (h : As A w v acts) : Calls Try.prog 10 #[v] w fun e w' => e = .returned (.bool true) ∧ Below w.heap.size w w' := by
  obtain ⟨aa, aca, rfl, hac, _, hal, _⟩ := h.at
  have HA := Hid.mk' h
  have hal' : (acts.length : Int) ≤ 2513169434916 := by unfold lim at hal; omega
  clear h hal
  go_enter Try.func10, Try.ntmps10
  go_wp2_with fail
  refine (awake10 w).mono ?_
  rintro e w1 ⟨rfl, h1⟩
  have H1 := Hid.mk' h1
  have V1 : Hid (Vst w w1.heap.size w1.heap.size (.slice none 0 0) [] 0 (w1.alloc (.cells #[.map none] 81))) := ⟨bt h1 (up_alloc _ _), h1.size, ((vault_new w1).mono fun _ h => h.elim).congr (by funext s; rfl), ⟨[], rfl, ⟨rfl, none, 0, rfl, Nat.le_refl _, fun _ => rfl, fun j u hj => by simp [tcs] at hj⟩, by simp, by simp⟩, by simp [Asc], Nat.le_refl _, by simp⟩
  clear h1
  go_wp2_with fail
  obtain ⟨W1, eW1⟩ : ∃ W1, W1 = w1.alloc (.cells #[.map none] 81) := ⟨_, rfl⟩
  rw [← eW1] at V1 ⊢
  clear eW1
  go_loopw [4, 5] (fun x i wr => ∃ (k : Nat) (l : List Th), k ≤ acts.length ∧ k ≤ 60 ∧ i = .int .i64 k ∧ Hid (Vst w w1.heap.size w1.heap.size x l k wr)) (fun _ i _ => acts.length - (intOf i).toNat)
  case atStart => exact ⟨0, [], by omega, by omega, rfl, V1⟩
  case round =>
    clear V1
    obtain ⟨k, l, hk, hk60, rfl, HV⟩ := hrel
    by_cases hlt : k < acts.length ∧ k < 60
    · obtain ⟨hlt, hlt60⟩ := hlt
      have hlt' : (k : Int) < (acts.length : Int) := by omega
      have hlt60' : (k : Int) < 60 := by omega
      obtain ⟨_, _, ec, _, _, _, H⟩ := (HA.out.up HV.out.bl).at
      cases ec
      obtain ⟨b, o, u, rfl, c0, c1, c2, c3, hu, hn1, hn2⟩ := H k hlt
      have HU := Hid.mk' hu
      obtain ⟨ua, uc, rfl, _⟩ := hu.at
      have HN1 := Hid.mk' hn1
      have HN2 := Hid.mk' hn2
      clear H hu hn1 hn2
      generalize acts[k] = a at *
      go_upto_if 33 with fail
      go_cut [4, 6] (fun x y wx => ∃ l' : List Th, y = .pointer (some ⟨wr.heap.size, 0, none⟩) ∧ Hid (Vst w w1.heap.size w1.heap.size x l' (k + 1) wx) ∧ Hid (Bq wr.heap.size a (.slice ua a.data.length uc) wx) ∧ Hid (Below wr.heap.size wr wx ∨ True) ∧ Hid (wr.heap.size < wx.heap.size))
      case first =>
        obtain ⟨W, eW⟩ : ∃ W, W = wr.alloc (.cells #[.int .i64 a.kind, .string ⟨a.name.toArray⟩, .string ⟨a.dest.toArray⟩, .slice ua a.data.length uc] 84) := ⟨_, rfl⟩
        have q1 : W.heap[wr.heap.size]? = some (.cells #[.int .i64 a.kind, .string ⟨a.name.toArray⟩, .string ⟨a.dest.toArray⟩, .slice ua a.data.length uc] 84 (0, 0)) := by rw [eW]; exact heap_alloc_new wr _
        have q2 : Below wr.heap.size wr W := by rw [eW]; exact up_alloc _ _
        have HQ : Hid (Bq wr.heap.size a (.slice ua a.data.length uc) W) := q1
        have HB := Hid.mk' q2
        have HVW := Hid.mk' (HV.out.up q2)
        have HZ : Hid (wr.heap.size < W.heap.size) := (Array.getElem?_eq_some_iff.1 q1).1
        obtain ⟨⟨b0, b1, b2, b3⟩, bf⟩ := cells4_get q1
        clear q1 q2
        by_cases hk1 : a.kind = 1
        · have hk1' : (a.kind == 1) = true := by simpa using hk1
          clear hk1
          go_wp2_with fail
          rw [← eW]
          clear eW
          have HU1 := Hid.mk' (HU.out.up HB.out)
          have HC := Hid.mk' (copy_any _ a.data W HU1.out)
          refine HC.out.mono ?_
          rintro e w2 ⟨v2, rfl, hb2, o2⟩
          obtain ⟨g2, c2', rfl⟩ := own_slice o2
          have HQ2 := Hid.mk' (HQ.out.up hb2)
          have HV2 := Hid.mk' (HVW.out.up hb2)
          have HT2 := Hid.mk' (HVW.out.ts.up hb2)
          have HI2 := Hid.mk' (HVW.out.vi.now.up hb2)
          have HO2 := Hid.mk' o2
          have HB2 := Hid.mk' hb2
          have HR := Hid.mk' (rput_any a.name HT2.out HVW.out.asc (HU1.out.up hb2) (by have := HVW.out.len; omega))
          have HZ2 : Hid (wr.heap.size < w2.heap.size) := Nat.lt_of_lt_of_le HZ.out hb2.size
          clear HC hb2 o2 b0 b1 b2 b3 bf
          obtain ⟨⟨b0, b1, b2, b3⟩, bf⟩ := cells4_get HQ2.out
          go_wp2_with fail
          refine HR.out.mono ?_
          rintro e w3 ⟨x3, rfl, t3, hb3⟩
          obtain ⟨p3, n3, d3, e3⟩ : ∃ p n d, x3 = .slice p n d := (let ⟨p, d, e, _⟩ := t3.at; ⟨p, _, d, e⟩)
          subst e3
          have HQ3 := Hid.mk' (HQ2.out.up hb3)
          have HO3 := Hid.mk' (HO2.out.keep hb3 (Nat.le_refl _))
          have HI3 := Hid.mk' (HI2.out.up hb3)
          have HT3 := Hid.mk' t3
          have HB3 := Hid.mk' hb3
          have HP := Hid.mk' (put_any (A := Lt w3.heap.size) a.name a.data HI3.out HN1.out (by have := HVW.out.len; unfold maxLen; omega) (HO3.out.bs HU.out.2))
          clear HR hb3 t3 b0 b1 b2 b3 bf
          obtain ⟨⟨b0, b1, b2, b3⟩, bf⟩ := cells4_get HQ3.out
          go_wp2_with fail
          refine HP.out.mono ?_
          rintro e w4 ⟨rfl, hb4, k4, v4⟩
          have HQ4 : Hid (Bq wr.heap.size a (.slice ua a.data.length uc) w4) := k4 _ _ _ _ (by obtain ⟨r, hr⟩ := HV.out.vi.box; have := (Array.getElem?_eq_some_iff.1 hr).1; omega) HQ3.out
          have HX := HI3.out.box
          obtain ⟨rx, hrx⟩ := HX
          have HO4 := Hid.mk' (HO3.out.but k4 hrx (by decide))
          have HT4 := Hid.mk' (HT3.out.but k4 hrx)
          have HV4 := Hid.mk' v4
          have HB4 := Hid.mk' hb4
          have HOV := Hid.mk' (over_any HO4.out HU.out.2)
          have hcc : (putC (tget l) a.name a.data != putC (tget l) a.name a.data) = false := by simp
          clear HP hb4 k4 v4 hrx
          clear b0 b1 b2 b3 bf
          go_wp2_with fail
          refine HOV.out.mono ?_
          rintro e w5 ⟨rfl, o5, wb5⟩
          have HL2 := HO2.out.lt
          have z3 := HB3.out.size
          have HF := Hid.mk' (Vst.over (l := tput l a.name a.data) (V := fun k => (fun k => True ∧ k < W.heap.size) k ∨ w3.heap.size ≤ k) (N := k + 1) (bt HV.out.bl (bt HB.out (bt HB2.out HB3.out)) |>.trans (HB4.out.mono HV.out.B0)) HV.out.B0 ((HV4.out.congr (by funext s; exact (tput_get HV.out.asc a.name a.data s).symm)).congrN (tput_len a.name a.data).symm) HT4.out (tput_asc HV.out.asc _ _) (by have := tput_len_le l a.name a.data; have := HV.out.len; omega) (fun t ht => by
            rcases tput_mem ht with ht | rfl
            · exact HV.out.nm t ht
            · exact HN1.out) HO4.out (Nat.le_trans HV.out.bl.size HB.out.size) (fun j hj => by
            have := HL2 j hj
            refine ⟨fun hx => ?_, fun hx => ?_⟩
            · rcases hx with hx | hx
              · have := hx.2; omega
              · omega
            · rcases hx with hx | hx
              · have hx : j < W.heap.size := hx; omega
              · omega) wb5)
          have HQ5 : Hid (Bq wr.heap.size a (.slice ua a.data.length uc) w5) := by
            have hq := HQ4.out
            unfold Bq at hq ⊢
            rw [wb5.block _ (Array.getElem?_eq_some_iff.1 hq).1 fun hx => by
              obtain ⟨_, cur, fr, h⟩ := own_typed HO4.out _ hx
              rw [hq] at h; cases h]
            exact hq
          have HZ5 : Hid (wr.heap.size < w5.heap.size) := (Array.getElem?_eq_some_iff.1 HQ5.out).1
          clear HL2 z3 o5 wb5
          go_wp2_with fail
          go_meet
          exact ⟨_, rfl, HF, HQ5, .inr trivial, HZ5⟩
        · have hk1' : (a.kind == 1) = false := by simpa using hk1
          clear hk1
          go_wp2_with fail
          rw [← eW]
          clear eW
          go_meet
          exact ⟨l, rfl, ⟨HVW.out.bl, HVW.out.B0, HVW.out.vi, HVW.out.ts, HVW.out.asc, Nat.le_succ_of_le HVW.out.len, HVW.out.nm⟩, HQ, .inr trivial, HZ⟩
      case rest =>
        have HV0 := HV
        clear HV
        obtain ⟨l', rfl, HV, HQ, _, HZ⟩ := hcut
        rename World => wx
        obtain ⟨⟨b0, b1, b2, b3⟩, bf⟩ := cells4_get HQ.out
        go_upto_if 57 with fail
        go_cut [4] (fun x wx => ∃ l' : List Th, Hid (Vst w w1.heap.size w1.heap.size x l' (k + 1) wx) ∧ Hid (Bq wr.heap.size a (.slice ua a.data.length uc) wx) ∧ Hid (wr.heap.size < wx.heap.size))
        case first =>
          by_cases hk2 : a.kind = 2
          · have hk2' : (a.kind == 2) = true := by simpa using hk2
            clear hk2
            have U1 := up_alloc wx (.cells #[.string ⟨a.name.toArray⟩, .string ⟨a.dest.toArray⟩] 9)
            have HR := Hid.mk' (rlose_any (HV.out.ts.up U1) (two_ss (w := wx) a.name a.dest))
            have HU1 := Hid.mk' U1
            have HZX : Hid ((wx.alloc (.cells #[.string ⟨a.name.toArray⟩, .string ⟨a.dest.toArray⟩] 9)).heap.size = wx.heap.size + 1) := by simp [Hid]
            have hll : (l'.length : Int) ≤ 1000 := by have := HV.out.len; omega
            clear U1
            go_wp2_with fail
            refine HR.out.mono ?_
            rintro e w2 ⟨x2, rfl, t2, hb2⟩
            obtain ⟨p2, n2, d2, e2, hn2⟩ : ∃ p n d, x2 = .slice p n d ∧ n = (tlose l' [a.name, a.dest]).length := (let ⟨p, d, e, _⟩ := t2.at; ⟨p, _, d, e, rfl⟩)
            subst e2
            obtain ⟨p4, n4, d4, e4, hn4⟩ : ∃ p n d, u4 = .slice p n d ∧ n = l'.length := (let ⟨p, d, e, _⟩ := HV.out.ts.at; ⟨p, _, d, e, rfl⟩)
            subst e4
            have HN2' := Hid.mk' hn2
            have HN4' := Hid.mk' hn4
            have hq4 : (n4 : Int) = (l'.length : Int) := by rw [hn4]
            have hn2b : (n2 : Int) ≤ 1000 := by have := List.length_filter_le (fun t : Th => !([a.name, a.dest] : List (List UInt8)).contains t.1) l'; have h3 : n2 ≤ l'.length := by rw [hn2]; exact this
                                                omega
            have HQ2 := Hid.mk' ((HQ.out.up HU1.out).up hb2)
            have HT2 := Hid.mk' t2
            have HB2 := Hid.mk' (bt HU1.out hb2)
            have U2 := up_alloc w2 (.cells #[.string ⟨a.name.toArray⟩, .string ⟨a.dest.toArray⟩] 9)
            have HU2 := Hid.mk' U2
            have HLS := Hid.mk' (lose_any ((HV.out.vi.up HB2.out).up U2) (two_ss (w := w2) a.name a.dest) (fun s hs => by
              rcases List.mem_cons.1 hs with rfl | hs
              · exact HN1.out
              · obtain rfl := List.mem_singleton.1 hs; exact HN2.out) (by have := HV.out.len; omega))
            clear HR hb2 t2 U2 hn2 hn4 b0 b1 b2 b3 bf
            obtain ⟨⟨b0, b1, b2, b3⟩, bf⟩ := cells4_get HQ2.out
            go_wp2_with fail
            refine HLS.out.mono ?_
            rintro e w3 ⟨n', rfl, v3, hb3, k3⟩
            have hn' : n' = n2 := by
              rw [HN2'.out]
              exact vault_len v3 (fun s => (tlose_get l' [a.name, a.dest] s).symm) (tlose_asc HV.out.asc _)
            subst hn'
            have HQ3 : Hid (Bq wr.heap.size a (.slice ua a.data.length uc) w3) := k3 _ _ _ _ (by obtain ⟨r, hr⟩ := HV0.out.vi.box; have := (Array.getElem?_eq_some_iff.1 hr).1; omega) (HQ2.out.up HU2.out)
            have HX : Hid (∃ r, (w2.alloc (.cells #[.string ⟨a.name.toArray⟩, .string ⟨a.dest.toArray⟩] 9)).heap[w1.heap.size]? = some (.cells #[.map r] 81 (0, 0))) := ((HV.out.vi.up HB2.out).up HU2.out).box
            have HF : Hid (Vst w w1.heap.size w1.heap.size (.slice p2 n' d2) (tlose l' [a.name, a.dest]) (k + 1) w3) := by
              obtain ⟨r, hr⟩ := HX.out
              refine ⟨(bt HV.out.bl (bt HB2.out HU2.out)).trans (hb3.mono HV.out.B0), HV.out.B0, ?_, ((HT2.out.up HU2.out).but k3 hr).andLt.monoS fun k hk => hk.2, tlose_asc HV.out.asc _, ?_, fun t ht => HV.out.nm t (List.mem_filter.1 ht).1⟩
              · rw [← HN2'.out]
                exact v3.congr (by funext s; exact (tlose_get l' [a.name, a.dest] s).symm)
              · exact Nat.le_trans (List.length_filter_le _ _) HV.out.len
            have HZ3 : Hid (wr.heap.size < w3.heap.size) := (Array.getElem?_eq_some_iff.1 HQ3.out).1
            have hcmp : ((l'.length : Int) - (n' : Int) != (l'.length : Int) - (n' : Int)) = false := by simp
            clear v3 hb3 k3 HLS b0 b1 b2 b3 bf
            go_wp2_with fail
            go_meet
            exact ⟨_, HF, HQ3, HZ3⟩
          · have hk2' : (a.kind == 2) = false := by simpa using hk2
            clear hk2
            go_wp2_with fail
            go_meet
            exact ⟨l', HV, HQ, HZ⟩
        case rest =>
          clear HV HQ HZ HV0
          obtain ⟨l2, HV, HQ, HZ⟩ := hcut
          rename World => wz
          clear b0 b1 b2 b3 bf
          obtain ⟨⟨b0, b1, b2, b3⟩, bf⟩ := cells4_get HQ.out
          obtain ⟨p4, n4, d4, e4, hn4⟩ : ∃ p n d, u4 = .slice p n d ∧ n = l2.length := (let ⟨p, d, e, _⟩ := HV.out.ts.at; ⟨p, _, d, e, rfl⟩)
          subst e4
          subst hn4
          have HG := Hid.mk' (get_any a.name HV.out.vi HN1.out)
          go_wp2_with fail
          refine HG.out.mono ?_
          rintro e w2 ⟨v2, rfl, hb2, o2⟩
          obtain ⟨p2, c2', rfl⟩ := own_slice o2
          have HV2 := Hid.mk' (HV.out.up hb2)
          have HT2 := Hid.mk' (HV.out.ts.up hb2)
          have HI2 := Hid.mk' (HV.out.vi.now.up hb2)
          have HQ2 := Hid.mk' (HQ.out.up hb2)
          have HO2 := Hid.mk' o2
          have HB2 := Hid.mk' hb2
          have HRG := Hid.mk' (rget_any a.name HT2.out)
          clear HG hb2 o2 b0 b1 b2 b3 bf
          obtain ⟨⟨b0, b1, b2, b3⟩, bf⟩ := cells4_get HQ2.out
          go_wp2_with fail
          refine HRG.out.mono ?_
          rintro e w3 ⟨⟨u3, rfl, hu3⟩, rfl⟩
          obtain ⟨p3, c3', rfl, _⟩ := hu3.at
          have HU3 := Hid.mk' hu3
          have hcc : (getC (tget l2) a.name != getC (tget l2) a.name) = false := by simp
          have HXL : Hid (((tget l2 a.name).getD []).length ≤ lim) := HU3.out.2
          clear HRG hu3
          generalize (tget l2 a.name).getD [] = X at *
          generalize getC (tget l2) a.name = gc at *
          go_wp2_with fail
          have r1 : ∀ q : Ups w2, q.nx.cell? ⟨wr.heap.size, 1, none⟩ = some _ := fun q => q.cell b1
          have r2 : ∀ q : Ups w2, q.nx.cell? ⟨wr.heap.size, 2, none⟩ = some _ := fun q => q.cell b2
          have HLL : Hid ((tlist l2 a.dest).length * 16 ≤ lim) := by have := tlist_len l2 a.dest l2.length; rw [List.take_length] at this; have := HV.out.len; show _ ≤ _; unfold lim; omega
          refine wp_region_free 26 Up (fun w' => ∃ q : Ups w2, w' = q.nx) (ul [(97, UL.is (.bool true)), (101, UL.is (.int .i64 l2.length)), (109, UL.strs (tlist l2 a.dest)), (113, UL.strs (tlist l2 a.dest)), (114, UL.is (.bool true))]) (by kernel_rfl) (by kernel_rfl) (ul_ck _) (up_first w2) ?_
          simp only [List.take_succ_cons, List.take_zero, List.drop_succ_cons, List.drop_zero]
          refine wf_take 6 rfl ?_
          simp only [List.take_succ_cons, List.take_zero, List.drop_succ_cons, List.drop_zero]
          repeat (go_big_quiet_step (fail))
          refine wpQuiet_nil ?_
          refine wf_call (V := (UL.is (.bool true)).1) (vals := [.slice p2 X.length c2', .slice p3 X.length c3']) Try.func25 (by kernel_rfl) rfl rfl (by kernel_rfl) (by kernel_rfl) (by kernel_rfl) (fun w1 hC hK => ?_) (fun u1 hu1 => ?_)
          · obtain ⟨q, rfl⟩ := hC
            have hq := requal_any _ _ _ _ q.nx ((HO2.out.keep q.ok (Nat.le_refl _)).bs HXL.out) (HU3.out.up q.ok)
            rw [beq_self_eq_true] at hq; exact is_free_dn' hq
          obtain rfl : u1 = .bool true := hu1
          simp only [Act.put, List.setIfInBounds_toArray, List.set_cons_succ, List.set_cons_zero]
          refine wf_take 3 rfl ?_
          simp only [List.take_succ_cons, List.take_zero, List.drop_succ_cons, List.drop_zero]
          repeat (go_big_quiet_step (fail))
          refine wpQuiet_nil ?_
          refine wf_call (V := (UL.is (.int .i64 l2.length)).1) (vals := [.pointer (some ⟨w1.heap.size, 0, none⟩)]) Try.func53 (by kernel_rfl) rfl rfl (by kernel_rfl) (by kernel_rfl) (by kernel_rfl) (fun w1 hC hK => ?_) (fun u1 hu1 => ?_)
          · obtain ⟨q, rfl⟩ := hC; exact is_free' (count_any (HI2.out.up q.ok))
          obtain rfl : u1 = .int .i64 l2.length := hu1
          simp only [Act.put, List.setIfInBounds_toArray, List.set_cons_succ, List.set_cons_zero]
          refine wf_take 7 rfl ?_
          simp only [List.take_succ_cons, List.take_zero, List.drop_succ_cons, List.drop_zero]
          repeat (go_big_quiet_step (fail))
          refine wpQuiet_nil ?_
          refine wf_call (V := (UL.strs (tlist l2 a.dest)).1) (vals := [.pointer (some ⟨w1.heap.size, 0, none⟩), .string ⟨a.dest.toArray⟩]) Try.func48 (by kernel_rfl) rfl rfl (by kernel_rfl) (by kernel_rfl) (by kernel_rfl) (fun w1 hC hK => ?_) (fun u1 hu1 => ?_)
          · obtain ⟨q, rfl⟩ := hC; exact strs_free HLL.out (list_tl a.dest (HI2.out.up q.ok) HV.out.asc HN2.out (by have := HV.out.len; omega))
          obtain ⟨pa, ca, rfl⟩ := hu1
          simp only [Act.put, List.setIfInBounds_toArray, List.set_cons_succ, List.set_cons_zero]
          refine wf_take 3 rfl ?_
          simp only [List.take_succ_cons, List.take_zero, List.drop_succ_cons, List.drop_zero]
          repeat (go_big_quiet_step (fail))
          refine wpQuiet_nil ?_
          refine wf_call (V := (UL.strs (tlist l2 a.dest)).1) (vals := [.slice p4 l2.length d4, .string ⟨a.dest.toArray⟩]) Try.func55 (by kernel_rfl) rfl rfl (by kernel_rfl) (by kernel_rfl) (by kernel_rfl) (fun w1 hC hK => ?_) (fun u1 hu1 => ?_)
          · obtain ⟨q, rfl⟩ := hC; exact strs_free HLL.out (rlist_any a.dest (HT2.out.up q.ok) HN2.out HV.out.nm)
          obtain ⟨pb, cb, rfl⟩ := hu1
          simp only [Act.put, List.setIfInBounds_toArray, List.set_cons_succ, List.set_cons_zero]
          refine wf_call (V := (UL.is (.bool true)).1) (vals := [.slice pa (tlist l2 a.dest).length ca, .slice pb (tlist l2 a.dest).length cb]) Try.func54 (by kernel_rfl) rfl rfl (by kernel_rfl) (by kernel_rfl) (by kernel_rfl) (fun w1 hC hK => ?_) (fun u1 hu1 => ?_)
          · have hq := same10_any (hK 109 _ _ (looks_of (by kernel_rfl)) (.inl (.inr ⟨rfl, rfl⟩)) rfl) (hK 113 _ _ (looks_of (by kernel_rfl)) (.inr ⟨rfl, rfl⟩) rfl)
            rw [beq_self_eq_true] at hq; exact is_free_dn' hq
          obtain rfl : u1 = .bool true := hu1
          simp only [Act.put, List.setIfInBounds_toArray, List.set_cons_succ, List.set_cons_zero]
          refine wf_take 2 rfl ?_
          simp only [List.take_succ_cons, List.take_zero, List.drop_succ_cons, List.drop_zero]
          repeat (go_big_quiet_step (fail))
          refine wpQuiet_nil ?_
          intro w8 hC hK
          clear hK
          obtain ⟨q, rfl⟩ := hC
          have HB8 := Hid.mk' q.ok
          have HOV := Hid.mk' (over_any (HO2.out.keep q.ok (Nat.le_refl _)) HXL.out)
          clear r1 r2 b0 b1 b2 b3 bf
          generalize q.nx = w8 at *
          clear q
          go_wp2_with fail
          refine HOV.out.mono ?_
          rintro e w9 ⟨rfl, o9, wb9⟩
          have HL2 := HO2.out.lt
          have HF := Hid.mk' (Vst.over (l := l2) (V := fun k => True ∧ k < wz.heap.size) (N := k + 1) (bt HV.out.bl (bt HB2.out HB8.out)) HV.out.B0 (HI2.out.up HB8.out) (HT2.out.up HB8.out) HV.out.asc HV.out.len HV.out.nm (HO2.out.keep HB8.out (Nat.le_refl _)) HV.out.bl.size (fun j hj => by
            have := HL2 j hj
            exact ⟨fun hx => by have := hx.2; omega, fun hx => by have hx : j < wz.heap.size := hx; omega⟩) wb9)
          clear HL2 o9 wb9
          go_wp2_with fail
          go_roundw
          case rel => exact ⟨k + 1, l2, by omega, by omega, by go_num, HF⟩
          case measure => simp [intOf]; omega
    · by_cases hlt1 : k < acts.length
      · have hlt' : (k : Int) < (acts.length : Int) := by omega
        have hlt60' : ¬ (k : Int) < 60 := by omega
        clear hlt
        obtain ⟨p4, n4, d4, e4, hn4⟩ : ∃ p n d, u4 = .slice p n d ∧ n = l.length := (let ⟨p, d, e, _⟩ := HV.out.ts.at; ⟨p, _, d, e, rfl⟩)
        subst e4
        subst hn4
        have HCN := Hid.mk' (count_any HV.out.vi)
        go_wp2_with fail
        refine HCN.out.mono ?_
        rintro e w2 ⟨rfl, rfl⟩
        go_wp2_with fail
        go_ret
        exact ⟨by simp, HV.out.bl⟩
      · have hlt' : ¬ (k : Int) < (acts.length : Int) := by omega
        clear hlt
        obtain ⟨p4, n4, d4, e4, hn4⟩ : ∃ p n d, u4 = .slice p n d ∧ n = l.length := (let ⟨p, d, e, _⟩ := HV.out.ts.at; ⟨p, _, d, e, rfl⟩)
        subst e4
        subst hn4
        have HCN := Hid.mk' (count_any HV.out.vi)
        go_wp2_with fail
        refine HCN.out.mono ?_
        rintro e w2 ⟨rfl, rfl⟩
        go_wp2_with fail
        go_ret
        exact ⟨by simp, HV.out.bl⟩
end Go.Proofs.Ytfmbbpfklhkljaa
