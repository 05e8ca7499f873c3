/- The law's first facts: awake. -/
import Derived.Test.YtojgkjpmphfakaaGreatDoorCK
set_option linter.unusedVariables false
set_option linter.unusedSimpArgs false
namespace Go.Proofs.YtojgkjpmphfakaaGreatDoor
open Go.RowKit
attribute [local go_sem ↓] Go.wp_at_zero Go.wp_at_succ
/-- a shelf of the call's own: its vault's box b, its own box g, what lies there -/
structure Sh (B b g : Nat) (p : List UInt8) (w0 w : World) (l : List Th) : Prop where
  vi : ∃ V, VaultIs B V w b (tget l) l.length
  bx : w.heap[g]? = some (.cells #[.pointer (some ⟨b, 0, none⟩), .string ⟨p.toArray⟩] 29 (0, 0))
  bl : Below B w0 w
  ne : g ≠ b
  sz : B ≤ w.heap.size
theorem Sh.up {B b g : Nat} {p : List UInt8} {w0 w w' : World} {l : List Th} (h : Sh B b g p w0 w l) (hb : Below w.heap.size w w') : Sh B b g p w0 w' l := by
  obtain ⟨V, hV⟩ := h.vi
  exact ⟨⟨V, hV.up hb⟩, (hb.block g (Array.getElem?_eq_some_iff.1 h.bx).1).trans h.bx, h.bl.trans (hb.mono h.sz), h.ne, Nat.le_trans h.sz hb.size⟩
theorem Sh.cells {B b g : Nat} {p : List UInt8} {w0 w : World} {l : List Th} (h : Sh B b g p w0 w l) : w.cell? ⟨g, 0, none⟩ = some (.pointer (some ⟨b, 0, none⟩)) ∧ w.cell? ⟨g, 1, none⟩ = some (.string ⟨p.toArray⟩) := (cl2_get h.bx).1
theorem Sh.put {B b g : Nat} {p : List UInt8} {w0 w w' : World} {l l' : List Th} {V : Nat → Prop} (h : Sh B b g p w0 w l) (hb : Below B w w') (hc : CellsBut b w w') (hv : VaultIs B V w' b (tget l') l'.length) : Sh B b g p w0 w' l' :=
  ⟨⟨V, hv⟩, hc g _ _ _ h.ne h.bx, h.bl.trans hb, h.ne, Nat.le_trans h.sz hb.size⟩
theorem sh_new (w : World) (p : List UInt8) : Sh w.heap.size w.heap.size (w.heap.size + 1) p w ((w.alloc (.cells #[.map none] 65)).alloc (.cells #[.pointer (some ⟨w.heap.size, 0, none⟩), .string ⟨p.toArray⟩] 29)) [] := by
  have hu := up_alloc (w.alloc (.cells #[.map none] 65)) (.cells #[.pointer (some ⟨w.heap.size, 0, none⟩), .string ⟨p.toArray⟩] 29)
  refine ⟨⟨_, (vault_new w).up hu⟩, ?_, bt (up_alloc _ _) hu, by omega, by simp; omega⟩
  have h := heap_alloc_new (w.alloc (.cells #[.map none] 65)) (.cells #[.pointer (some ⟨w.heap.size, 0, none⟩), .string ⟨p.toArray⟩] 29)
  rw [show (w.alloc (.cells #[.map none] 65)).heap.size = w.heap.size + 1 by simp] at h
  exact h
def ClaimP (B b g : Nat) (p : List UInt8) (w0 : World) (os : List Og) (op : Nat → Bool) (n : Nat) (k : Int) (e : Ending) (w' : World) : Prop :=
  e = .returned (.tuple #[.int .u64 k, .int .i64 0]) ∧ ∃ l', Sh B b g p w0 w' l' ∧ Clm l' p os op ∧ l'.length ≤ n
theorem Sh.claim {B b g : Nat} {p : List UInt8} {w0 w : World} {l : List Th} {os : List Og} {op : Nat → Bool} {n : Nat} (h : Sh B b g p w0 w l) (hC : Clm l p os op) (hl : p.length ≤ 100) (hn : l.length ≤ n) (hn2 : n ≤ 10000) (o : Og) (h1 : o.1 < 18446744073709551616) (h2 : o.2.1 < 18446744073709551616) (h3 : o.2.2.length ≤ 1000) (h4 : os.length + 1 ≤ 1000) {k : Int} (hk : ((os.length + 1 : Nat) : Int) = k) :
    Calls Tryz.prog 17 #[.agg #[.pointer (some ⟨b, 0, none⟩), .string ⟨p.toArray⟩], .agg #[.int .u64 (o.1 : Int), .int .u64 (o.2.1 : Int), .string ⟨o.2.2.toArray⟩]] w (ClaimP B b g p w0 (os ++ [o]) op (n + 1) k) := by
  obtain ⟨V, hV⟩ := h.vi
  refine (claim_any p o.1 o.2.1 o.2.2 os.length hV hC.asc (by omega) hl (hC.names hl) hC.max (by omega) hC.free h1 h2 h3).mono fun e w' ⟨e1, e2, e3, e4⟩ => ?_
  refine ⟨by rw [e1, hk], _, h.put e2 e3 e4, hC.claim o h1 h2 h3 h4, ?_⟩
  rw [tput_len]
  unfold putN
  rw [hC.free]
  exact Nat.succ_le_succ hn
theorem Sh.newest {B b g : Nat} {p : List UInt8} {w0 w : World} {l : List Th} {os : List Og} {op : Nat → Bool} (h : Sh B b g p w0 w l) (hC : Clm l p os op) (hl : p.length ≤ 100) (hn : l.length ≤ 10000) :
    Calls Tryz.prog 16 #[.agg #[.pointer (some ⟨b, 0, none⟩), .string ⟨p.toArray⟩]] w fun e w' => e = .returned (.int .u64 (os.length : Int)) ∧ Below w.heap.size w w' := by
  obtain ⟨V, hV⟩ := h.vi
  have := newest_any p hV hC.asc (by omega) (by omega) (hC.names hl)
  rwa [hC.max] at this
set_option maxRecDepth 100000 in
set_option maxHeartbeats 4000000 in
theorem awake_any (w : World) : Calls Tryz.prog 6 #[] w fun e w' => e = .returned (.bool true) ∧ Below w.heap.size w w' := by
  obtain ⟨W, hW⟩ : ∃ W, W = (w.alloc (.cells #[.map none] 65)).alloc (.cells #[.pointer (some ⟨w.heap.size, 0, none⟩), .string ⟨#[]⟩] 29) := ⟨_, rfl⟩
  have hS : Sh w.heap.size w.heap.size (w.heap.size + 1) [] w W [] := by rw [hW]; exact sh_new w []
  obtain ⟨c0, c1⟩ := hS.cells
  have c1 : W.cell? ⟨w.heap.size + 1, 1, none⟩ = some (.string ⟨#[]⟩) := c1
  have HN := Hid.mk' (new_any w)
  have HC1 : Hid (Calls Tryz.prog 17 #[.agg #[.pointer (some ⟨w.heap.size, 0, none⟩), .string ⟨#[]⟩], .agg #[.int .u64 0, .int .u64 0, .string ⟨#[]⟩]] W (ClaimP w.heap.size w.heap.size (w.heap.size + 1) [] w [(0, 0, [])] (fun _ => false) 1 1)) := hS.claim (n := 0) (Clm.nil []) (by simp) (by simp) (by omega) (0, 0, []) (by simp) (by simp) (by simp) (by simp) rfl
  clear hS
  go_enter Tryz.func6, Tryz.ntmps6
  go_wp2_with fail
  refine HN.out.mono ?_
  rintro e w1 ⟨rfl, rfl⟩
  clear HN
  go_upto_region 2 with fail
  rw [← hW]
  clear hW
  go_wp2_with fail
  refine HC1.out.mono ?_
  rintro e w1 ⟨rfl, l1, hs1, hc1, hn1⟩
  clear HC1 c0 c1
  obtain ⟨c0, c1⟩ := hs1.cells
  have c1 : w1.cell? ⟨w.heap.size + 1, 1, none⟩ = some (.string ⟨#[]⟩) := c1
  have HC2 : Hid (Calls Tryz.prog 17 #[.agg #[.pointer (some ⟨w.heap.size, 0, none⟩), .string ⟨#[]⟩], .agg #[.int .u64 1, .int .u64 7, .string ⟨#[98]⟩]] w1 (ClaimP w.heap.size w.heap.size (w.heap.size + 1) [] w [(0, 0, []), (1, 7, [98])] (fun _ => false) 2 2)) := hs1.claim hc1 (by simp) hn1 (by omega) (1, 7, [98]) (by simp) (by simp) (by simp) (by simp) rfl
  clear hs1 hc1 hn1
  go_wp2_with fail
  refine HC2.out.mono ?_
  rintro e w2 ⟨rfl, l2, hs2, hc2, hn2⟩
  clear HC2 c0 c1
  obtain ⟨c0, c1⟩ := hs2.cells
  have c1 : w2.cell? ⟨w.heap.size + 1, 1, none⟩ = some (.string ⟨#[]⟩) := c1
  have HW2 := Hid.mk' (hs2.newest hc2 (by simp) (by omega))
  have HS2 := Hid.mk' hs2
  clear hs2 hc2 hn2
  rw [show ((([(0, 0, []), (1, 7, [98])] : List Og).length : Nat) : Int) = 2 from rfl] at HW2
  go_wp2_with fail
  refine HW2.out.mono ?_
  rintro e w3 ⟨rfl, hb3⟩
  have HS3 := Hid.mk' (HS2.out.up hb3)
  clear hb3 HW2 c0 c1
  obtain ⟨c0, c1⟩ := HS3.out.cells
  have c1 : w3.cell? ⟨w.heap.size + 1, 1, none⟩ = some (.string ⟨#[]⟩) := c1
  have HE : Hid (Calls Tryz.prog 9 #[.agg #[.pointer (some ⟨w.heap.size, 0, none⟩), .string ⟨#[]⟩], .int .u64 1, .agg #[.int .u64 7, .string ⟨#[66]⟩, .slice none 0 0]] w3 fun e w' => e = .returned (.int .i64 3) ∧ Below w3.heap.size w3 w') := enter_bad (p := []) 1 (7, [66], []) (A := fun _ => False) ⟨Row.void fun _ => rfl, by simp, by unfold lim; simp⟩ (by decide)
  go_wp2_with fail
  refine HE.out.mono ?_
  rintro e w4 ⟨rfl, hb4⟩
  have HB4 := Hid.mk' ((HS3.out.up hb4).bl)
  clear hb4 HE c0 c1
  go_wp2_with fail
  go_ret
  exact ⟨rfl, HB4.out⟩
end Go.Proofs.YtojgkjpmphfakaaGreatDoor
