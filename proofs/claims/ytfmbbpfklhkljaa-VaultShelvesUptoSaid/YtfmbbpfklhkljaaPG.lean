/- Pages: what is written and read of a node. No program is named here. -/
import Derived.Test.YtfmbbpfklhkljaaA9
set_option linter.unusedVariables false
set_option linter.unusedSimpArgs false
namespace Go.Proofs.Ytfmbbpfklhkljaa
def ent (n : Nd) (i : Nat) : List UInt8 :=
  (UInt8.ofNat (n.keys.getD i []).length :: n.keys.getD i []) ++ if n.leaf then be2 (n.vals.getD i []).length ++ n.vals.getD i [] else be2 (n.kids.getD (i + 1) 0).toNat
def hdr (n : Nd) (m : Nat) : List UInt8 := (if n.leaf then 1 else 2) :: (be2 m ++ if n.leaf then [] else be2 (n.kids.getD 0 0).toNat)
def out (n : Nd) (m k : Nat) : List UInt8 := hdr n m ++ ((List.range k).map (ent n)).flatten
theorem out_zero (n : Nd) (m : Nat) : out n m 0 = hdr n m := by simp [out]
theorem out_succ (n : Nd) (m k : Nat) : out n m (k + 1) = out n m k ++ ent n k := by simp [out, List.range_succ]
def enc (n : Nd) : List UInt8 := out n n.keys.length n.keys.length
def page (n : Nd) : List UInt8 := enc n ++ List.replicate (512 - (enc n).length) 0
@[simp] theorem be2_length (n : Nat) : (be2 n).length = 2 := rfl
theorem ent_length (n : Nd) (i : Nat) : (ent n i).length = 1 + (n.keys.getD i []).length + if n.leaf then 2 + (n.vals.getD i []).length else 2 := by
  unfold ent; split <;> simp <;> omega
theorem getD_get {α : Type} (l : List α) (i : Nat) (d : α) (h : i < l.length) : l.getD i d = l[i] := by simp [h]
theorem tot_len (a : Nat) (l : List (List UInt8)) : tot a (l.take l.length) = tot a l := by rw [List.take_length]
theorem out_length (n : Nd) (m k : Nat) (h1 : k ≤ n.keys.length) (h2 : n.leaf = true → k ≤ n.vals.length) :
    (out n m k).length = 3 + tot 1 (n.keys.take k) + if n.leaf then tot 2 (n.vals.take k) else 2 * (k + 1) := by
  induction k with
  | zero => rw [out_zero]; unfold hdr; cases n.leaf <;> simp [tot]
  | succ k ih =>
    have ih := ih (by omega) (fun h => by have := h2 h; omega)
    rw [out_succ, List.length_append, ih, ent_length, tot_take 1 n.keys k (by omega), getD_get _ _ _ (by omega)]
    cases hl : n.leaf with
    | true =>
      have := h2 hl
      simp only [if_true]
      rw [tot_take 2 n.vals k (by omega), getD_get _ _ _ (by omega)]; omega
    | false => simp; omega
theorem formed_leaf {n : Nd} (h : formed n = true) (hl : n.leaf = true) : n.vals.length = n.keys.length ∧ n.kids = [] := by
  unfold formed at h; rw [hl, if_pos rfl] at h
  simp only [Bool.and_eq_true, beq_iff_eq] at h
  exact ⟨h.2.1, List.eq_nil_of_length_eq_zero h.2.2⟩
theorem formed_inner {n : Nd} (h : formed n = true) (hl : n.leaf = false) : n.vals = [] ∧ n.kids.length = n.keys.length + 1 ∧ ∀ k ∈ n.kids, 0 ≤ k ∧ k ≤ 65535 := by
  unfold formed at h; rw [hl] at h
  simp only [Bool.false_eq_true, if_false, Bool.and_eq_true, beq_iff_eq, Bool.not_eq_true', List.any_eq_false] at h
  refine ⟨List.eq_nil_of_length_eq_zero h.2.1.2, h.2.2, fun k hk => ?_⟩
  have := h.2.1.1 k hk
  unfold badKid at this
  simp only [Bool.or_eq_true, decide_eq_true_eq] at this
  omega
theorem check_zero {n : Nd} (h : check n = 0) : formed n = true ∧ (∀ x ∈ n.keys, x.length ≤ 64) ∧ ∀ x ∈ n.vals, x.length ≤ 128 := by
  unfold check at h
  split at h
  · cases h
  · rename_i hl
    split at h
    · rename_i hf
      rw [Bool.or_eq_true, not_or] at hl
      simp only [long, Bool.not_eq_true, List.any_eq_false, decide_eq_true_eq] at hl
      exact ⟨hf, fun x hx => by have := hl.1 x hx; omega, fun x hx => by have := hl.2 x hx; omega⟩
    · cases h
theorem enc_length {n : Nd} (h : formed n = true) : (enc n).length = size n := by
  unfold enc
  rw [out_length n _ _ (Nat.le_refl _) (fun hl => by rw [(formed_leaf h hl).1]; exact Nat.le_refl _)]
  unfold size
  cases hl : n.leaf with
  | true => rw [tot_len, ← (formed_leaf h hl).1, tot_len]; rfl
  | false => rw [tot_len, (formed_inner h hl).2.1]; simp
/-- what reads a page -/
structure Cu where
  b : List UInt8
  bad : Bool
def tk (n : Nat) (c : Cu) : List UInt8 := if c.b.length < n then List.replicate n 0 else c.b.take n
def tkc (n : Nat) (c : Cu) : Cu := if c.b.length < n then ⟨c.b, true⟩ else ⟨c.b.drop n, c.bad⟩
def on (c : Cu) : Nat := ((tk 1 c).getD 0 0).toNat
def tw (c : Cu) : Nat := ((tk 2 c).getD 0 0).toNat * 256 + ((tk 2 c).getD 1 0).toNat
theorem on_le (c : Cu) : on c ≤ 255 := by unfold on; have := UInt8.toNat_lt ((tk 1 c).getD 0 0); omega
theorem tw_le (c : Cu) : tw c ≤ 65535 := by unfold tw; have := UInt8.toNat_lt ((tk 2 c).getD 0 0); have := UInt8.toNat_lt ((tk 2 c).getD 1 0); omega
theorem tk_length (n : Nat) (c : Cu) : (tk n c).length = n := by
  unfold tk; split <;> simp; omega
theorem tkc_bad {n : Nat} {c : Cu} (h : (tkc n c).bad = false) : c.bad = false ∧ n ≤ c.b.length ∧ c.b = tk n c ++ (tkc n c).b := by
  unfold tkc tk at *
  split at h
  · cases h
  · rename_i hn; rw [if_neg hn, if_neg hn]; exact ⟨h, by omega, by simp⟩
theorem tkc_len (n : Nat) (c : Cu) : (tkc n c).b.length ≤ c.b.length := by
  unfold tkc; split <;> simp
theorem tk_app (x r : List UInt8) : tk x.length ⟨x ++ r, false⟩ = x ∧ tkc x.length ⟨x ++ r, false⟩ = ⟨r, false⟩ := by
  unfold tk tkc
  have : ¬ (x ++ r).length < x.length := by simp
  rw [if_neg this, if_neg this]; simp
theorem tk_app' {m : Nat} (x r : List UInt8) (h : m = x.length) : tk m ⟨x ++ r, false⟩ = x ∧ tkc m ⟨x ++ r, false⟩ = ⟨r, false⟩ := by subst h; exact tk_app x r
theorem tw_app (n : Nat) (r : List UInt8) (h : n ≤ 65535) : tw ⟨be2 n ++ r, false⟩ = n ∧ tkc 2 ⟨be2 n ++ r, false⟩ = ⟨r, false⟩ := by
  have := tk_app (be2 n) r
  rw [be2_length] at this
  refine ⟨?_, this.2⟩
  unfold tw; rw [this.1]; unfold be2; simp; omega
theorem on_app (n : Nat) (r : List UInt8) (h : n ≤ 255) : on ⟨UInt8.ofNat n :: r, false⟩ = n ∧ tkc 1 ⟨UInt8.ofNat n :: r, false⟩ = ⟨r, false⟩ := by
  have := tk_app [UInt8.ofNat n] r
  simp only [List.length_cons, List.length_nil, Nat.zero_add, List.cons_append, List.nil_append] at this
  refine ⟨?_, this.2⟩
  unfold on; rw [this.1]; simp; omega
theorem two_bytes {x : List UInt8} (h : x.length = 2) : be2 ((x.getD 0 0).toNat * 256 + (x.getD 1 0).toNat) = x := by
  obtain ⟨a, b, rfl⟩ : ∃ a b, x = [a, b] := by
    match x, h with
    | [a, b], _ => exact ⟨a, b, rfl⟩
  have ha := UInt8.toNat_lt a
  have hb := UInt8.toNat_lt b
  unfold be2
  simp only [List.getD_cons_zero, List.getD_cons_succ, List.cons.injEq, and_true]
  constructor
  · apply UInt8.toNat_inj.1; simp; omega
  · apply UInt8.toNat_inj.1; simp
theorem one_byte {x : List UInt8} (h : x.length = 1) : [UInt8.ofNat (x.getD 0 0).toNat] = x := by
  match x, h with
  | [a], _ => simp
def entC (lf : Bool) (c : Cu) : Cu :=
  let c2 := tkc (on c) (tkc 1 c)
  if lf then tkc (tw c2) (tkc 2 c2) else tkc 2 c2
def entN (n : Nd) (c : Cu) : Nd :=
  let c2 := tkc (on c) (tkc 1 c)
  if n.leaf then ⟨n.leaf, n.keys ++ [tk (on c) (tkc 1 c)], n.vals ++ [tk (tw c2) (tkc 2 c2)], n.kids⟩ else ⟨n.leaf, n.keys ++ [tk (on c) (tkc 1 c)], n.vals, n.kids ++ [(tw c2 : Int)]⟩
theorem entN_leaf (n : Nd) (c : Cu) : (entN n c).leaf = n.leaf := by unfold entN; split <;> rfl
def ents : Nat → Nd → Cu → Nd × Cu
  | 0, n, c => (n, c)
  | k + 1, n, c => if c.bad then (n, c) else ents k (entN n c) (entC n.leaf c)
theorem ents_bad (k : Nat) (n : Nd) (c : Cu) (h : c.bad = true) : ents k n c = (n, c) := by cases k <;> simp [ents, h]
def none0 : Nd := ⟨false, [], [], []⟩
def kind (p : List UInt8) : Nat := on ⟨p, false⟩
def c1 (p : List UInt8) : Cu := tkc 1 ⟨p, false⟩
def cnt (p : List UInt8) : Nat := tw (c1 p)
def c2 (p : List UInt8) : Cu := tkc 2 (c1 p)
def n0 (p : List UInt8) : Nd := if kind p = 1 then ⟨true, [], [], []⟩ else ⟨false, [], [], [(tw (c2 p) : Int)]⟩
def c3 (p : List UInt8) : Cu := if kind p = 1 then c2 p else tkc 2 (c2 p)
def rd (p : List UInt8) : Nd × Cu := ents (cnt p) (n0 p) (c3 p)
def dec (p : List UInt8) : Nd × Int :=
  if p.length ≠ 512 then (none0, 2)
  else if (rd p).2.bad || (rd p).2.b.any (· != 0) || (kind p != 1 && kind p != 2) || check (rd p).1 != 0 then (none0, 3) else ((rd p).1, 0)
def keep (k : Nat) (n : Nd) : Nd := ⟨n.leaf, n.keys.take k, n.vals.take k, n.kids.take (k + 1)⟩
theorem ents_page {n : Nd} (hf : formed n = true) (hk : ∀ x ∈ n.keys, x.length ≤ 64) (hv : ∀ x ∈ n.vals, x.length ≤ 128) (rest : List UInt8) : ∀ (j i : Nat), i + j = n.keys.length →
    ents j (keep i n) ⟨((List.range' i j).map (ent n)).flatten ++ rest, false⟩ = (n, ⟨rest, false⟩)
  | 0, i, h => by
    have : keep i n = n := by
      unfold keep
      cases hl : n.leaf with
      | true =>
        have := formed_leaf hf hl
        obtain ⟨lf, ks, vs, cs⟩ := n
        simp only at *
        rw [List.take_of_length_le (by omega), List.take_of_length_le (by omega), this.2, List.take_nil, hl]
      | false =>
        have := formed_inner hf hl
        obtain ⟨lf, ks, vs, cs⟩ := n
        simp only at *
        rw [List.take_of_length_le (by omega), List.take_of_length_le (l := cs) (by omega), this.1, List.take_nil, hl]
    simp [ents, this]
  | j + 1, i, h => by
    have hi : i < n.keys.length := by omega
    have hkl := hk _ (List.getElem_mem hi)
    rw [ents, if_neg (by simp), List.range'_succ, List.map_cons, List.flatten_cons, List.append_assoc]
    have e0 : (keep i n).leaf = n.leaf := rfl
    have step : entN (keep i n) ⟨ent n i ++ (((List.range' (i + 1) j).map (ent n)).flatten ++ rest), false⟩ = keep (i + 1) n ∧
        entC n.leaf ⟨ent n i ++ (((List.range' (i + 1) j).map (ent n)).flatten ++ rest), false⟩ = ⟨((List.range' (i + 1) j).map (ent n)).flatten ++ rest, false⟩ := by
      generalize ((List.range' (i + 1) j).map (ent n)).flatten ++ rest = r
      unfold ent entN entC
      rw [getD_get _ _ _ hi, e0]
      cases hl : n.leaf with
      | true =>
        have hfl := formed_leaf hf hl
        have hiv : i < n.vals.length := by omega
        have hvl := hv _ (List.getElem_mem hiv)
        rw [getD_get _ _ _ hiv]
        simp only [if_true, List.append_assoc, List.cons_append]
        obtain ⟨a1, a2⟩ := on_app n.keys[i].length (n.keys[i] ++ (be2 n.vals[i].length ++ (n.vals[i] ++ r))) (by omega)
        rw [a1, a2]
        obtain ⟨a3, a4⟩ := tk_app n.keys[i] (be2 n.vals[i].length ++ (n.vals[i] ++ r))
        rw [a3, a4]
        obtain ⟨a5, a6⟩ := tw_app n.vals[i].length (n.vals[i] ++ r) (by omega)
        rw [a5, a6]
        obtain ⟨a7, a8⟩ := tk_app n.vals[i] r
        rw [a7, a8]
        refine ⟨?_, rfl⟩
        simp only [keep, hl, hfl.2, List.take_nil, List.take_succ_eq_append_getElem hi, List.take_succ_eq_append_getElem hiv]
      | false =>
        have hfl := formed_inner hf hl
        have hic : i + 1 < n.kids.length := by omega
        have hcl := hfl.2.2 _ (List.getElem_mem hic)
        rw [getD_get _ _ _ hic]
        simp only [Bool.false_eq_true, if_false, List.append_assoc, List.cons_append]
        obtain ⟨a1, a2⟩ := on_app n.keys[i].length (n.keys[i] ++ (be2 n.kids[i + 1].toNat ++ r)) (by omega)
        rw [a1, a2]
        obtain ⟨a3, a4⟩ := tk_app n.keys[i] (be2 n.kids[i + 1].toNat ++ r)
        rw [a3, a4]
        obtain ⟨a5, a6⟩ := tw_app n.kids[i + 1].toNat r (by omega)
        rw [a5, a6]
        refine ⟨?_, rfl⟩
        have e5 : ((n.kids[i + 1].toNat : Nat) : Int) = n.kids[i + 1] := by omega
        simp only [keep, hl, hfl.1, List.take_nil, List.take_succ_eq_append_getElem hi, List.take_succ_eq_append_getElem hic, e5]
    rw [e0, step.1, step.2]
    exact ents_page hf hk hv rest j (i + 1) (by omega)
/-- what was written is read -/
theorem dec_page {n : Nd} (hc : check n = 0) (hs : size n ≤ 512) : dec (page n) = (n, 0) := by
  obtain ⟨hf, hk, hv⟩ := check_zero hc
  have hel := enc_length hf
  have hpl : (page n).length = 512 := by unfold page; simp; omega
  have hkn : n.keys.length ≤ 512 := by
    have h1 : ∀ l : List (List UInt8), l.length ≤ tot 1 l := fun l => by
      induction l with
      | nil => simp [tot]
      | cons x l ih => simp only [tot, List.map_cons, List.sum_cons, List.length_cons] at *; omega
    have := h1 n.keys
    unfold size at hs; omega
  have hrd : rd (page n) = (n, ⟨List.replicate (512 - (enc n).length) 0, false⟩) ∧ kind (page n) = if n.leaf then 1 else 2 := by
    have hp : page n = (if n.leaf then 1 else 2 : UInt8) :: (be2 n.keys.length ++ ((if n.leaf then [] else be2 (n.kids.getD 0 0).toNat) ++ (((List.range' 0 n.keys.length).map (ent n)).flatten ++ List.replicate (512 - (enc n).length) 0))) := by
      unfold page; rw [show enc n = out n n.keys.length n.keys.length from rfl]
      unfold out hdr; simp [List.range_eq_range']
    generalize List.replicate (512 - (enc n).length) (0 : UInt8) = z at *
    have hkey := ents_page hf hk hv z n.keys.length 0 (by omega)
    generalize ((List.range' 0 n.keys.length).map (ent n)).flatten ++ z = r at *
    unfold rd c3 n0 cnt c2 c1 kind
    rw [hp]
    cases hl : n.leaf with
    | true =>
      have b0 := on_app 1 (be2 n.keys.length ++ ([] ++ r)) (by omega)
      have b1 := tw_app n.keys.length ([] ++ r) (by omega)
      simp only [if_true]
      rw [show (1 : UInt8) = UInt8.ofNat 1 from rfl, b0.1, b0.2, b1.1, b1.2]
      simp only [if_true, List.nil_append]
      have : keep 0 n = ⟨true, [], [], []⟩ := by simp [keep, hl, (formed_leaf hf hl).2]
      rw [← this]
      exact ⟨hkey, trivial⟩
    | false =>
      have hfl := formed_inner hf hl
      have hic : 0 < n.kids.length := by omega
      have hcl := hfl.2.2 _ (List.getElem_mem hic)
      have b0 := on_app 2 (be2 n.keys.length ++ (be2 (n.kids.getD 0 0).toNat ++ r)) (by omega)
      have b1 := tw_app n.keys.length (be2 (n.kids.getD 0 0).toNat ++ r) (by omega)
      have b2 := tw_app (n.kids.getD 0 0).toNat r (by rw [getD_get _ _ _ hic]; omega)
      simp only [Bool.false_eq_true, if_false]
      rw [show (2 : UInt8) = UInt8.ofNat 2 from rfl, b0.1, b0.2, b1.1, b1.2]
      simp only [if_neg (show ¬ (2 = 1) by decide)]
      rw [b2.1, b2.2]
      have : keep 0 n = ⟨false, [], [], [((n.kids.getD 0 0).toNat : Int)]⟩ := by
        have e5 : ((n.kids[0].toNat : Nat) : Int) = n.kids[0] := by omega
        simp only [keep, hl, List.take_zero, List.take_succ_eq_append_getElem hic, getD_get _ _ _ hic, List.nil_append, e5]
      rw [← this]
      exact ⟨hkey, trivial⟩
  unfold dec
  rw [if_neg (by simpa using hpl), hrd.1, hrd.2, hc]
  cases n.leaf <;> simp
theorem ent_prefix {n m : Nd} {i : Nat} (hl : m.leaf = n.leaf) (h1 : m.keys.getD i [] = n.keys.getD i []) (h2 : n.leaf = true → m.vals.getD i [] = n.vals.getD i []) (h3 : n.leaf = false → m.kids.getD (i + 1) 0 = n.kids.getD (i + 1) 0) : ent m i = ent n i := by
  unfold ent
  rw [hl, h1]
  cases h : n.leaf with
  | true => rw [h2 h]; rfl
  | false => rw [h3 h]; rfl
theorem getD_append_left {α : Type} (l r : List α) (i : Nat) (d : α) (h : i < l.length) : (l ++ r).getD i d = l.getD i d := by
  simp [List.getD, List.getElem?_append_left h]
theorem getD_append_len {α : Type} (l : List α) (x d : α) {i : Nat} (h : i = l.length) : (l ++ [x]).getD i d = x := by
  subst h; simp [List.getD]
/-- the counts agree -/
def Fit (n : Nd) (k : Nat) : Prop := n.keys.length = k ∧ if n.leaf then n.vals.length = k ∧ n.kids = [] else n.vals = [] ∧ n.kids.length = k + 1
theorem out_entN {n : Nd} {k m : Nat} {c : Cu} (hF : Fit n k) (hb : (entC n.leaf c).bad = false) : Fit (entN n c) (k + 1) ∧ c.bad = false ∧ out (entN n c) m (k + 1) ++ (entC n.leaf c).b = out n m k ++ c.b := by
  obtain ⟨hF1, hF2⟩ := hF
  have hpre : ∀ n' : Nd, n'.leaf = n.leaf → (∃ x, n'.keys = n.keys ++ [x]) → (∃ x, n'.vals = n.vals ++ x) → (∃ x, n'.kids = n.kids ++ x) → out n' m k = out n m k := by
    rintro n' h0 ⟨x, h1⟩ ⟨y, h2⟩ ⟨z, h3⟩
    unfold out
    have e1 : hdr n' m = hdr n m := by
      unfold hdr; rw [h0]
      cases hl : n.leaf with
      | true => rfl
      | false =>
        rw [hl] at hF2
        simp only [Bool.false_eq_true, if_false] at hF2
        rw [h3, getD_append_left _ _ _ _ (by omega)]
    rw [e1]
    congr 1
    congr 1
    apply List.map_congr_left
    intro i hi
    have hi := List.mem_range.1 hi
    refine ent_prefix h0 (by rw [h1, getD_append_left _ _ _ _ (by omega)]) (fun hl => ?_) (fun hl => ?_)
    · rw [hl] at hF2; simp only [if_true] at hF2
      rw [h2, getD_append_left _ _ _ _ (by omega)]
    · rw [hl] at hF2; simp only [Bool.false_eq_true, if_false] at hF2
      rw [h3, getD_append_left _ _ _ _ (by omega)]
  unfold entC at hb ⊢
  unfold entN
  cases hl : n.leaf with
  | true =>
    rw [hl] at hF2
    simp only [if_true] at hF2 hb ⊢
    simp only [hl, if_true] at hb
    obtain ⟨g1, g2, g3⟩ := tkc_bad hb
    obtain ⟨g4, g5, g6⟩ := tkc_bad g1
    obtain ⟨g7, g8, g9⟩ := tkc_bad g4
    obtain ⟨g10, g11, g12⟩ := tkc_bad g7
    refine ⟨⟨by simp [hF1], by simp [hF2]⟩, g10, ?_⟩
    rw [out_succ, hpre _ (by simp [hl]) ⟨_, rfl⟩ ⟨_, rfl⟩ ⟨[], by simp⟩, List.append_assoc]
    congr 1
    unfold ent
    simp only [if_true]
    rw [getD_append_len _ _ _ hF1.symm, getD_append_len _ _ _ hF2.1.symm, tk_length, tk_length]
    have w1 := one_byte (tk_length 1 c)
    have w2 := two_bytes (tk_length 2 (tkc (on c) (tkc 1 c)))
    rw [g12]
    conv => rhs; rw [← w1]
    rw [g9]
    conv => rhs; rw [g6]
    conv => rhs; rw [← w2]
    conv => rhs; rw [g3]
    simp only [on, tw, List.append_assoc, List.cons_append, List.nil_append]
  | false =>
    rw [hl] at hF2
    simp only [Bool.false_eq_true, if_false] at hF2 hb ⊢
    simp only [hl, Bool.false_eq_true, if_false] at hb
    obtain ⟨g4, g5, g6⟩ := tkc_bad hb
    obtain ⟨g7, g8, g9⟩ := tkc_bad g4
    obtain ⟨g10, g11, g12⟩ := tkc_bad g7
    refine ⟨⟨by simp [hF1], by simp [hF2]⟩, g10, ?_⟩
    rw [out_succ, hpre _ (by simp [hl]) ⟨_, rfl⟩ ⟨[], by simp⟩ ⟨_, rfl⟩, List.append_assoc]
    congr 1
    unfold ent
    simp only [Bool.false_eq_true, if_false]
    rw [getD_append_len _ _ _ hF1.symm, getD_append_len _ _ _ (by omega), tk_length, Int.toNat_natCast]
    have w1 := one_byte (tk_length 1 c)
    have w2 := two_bytes (tk_length 2 (tkc (on c) (tkc 1 c)))
    rw [g12]
    conv => rhs; rw [← w1]
    rw [g9]
    conv => rhs; rw [g6]
    conv => rhs; rw [← w2]
    simp only [on, tw, List.append_assoc, List.cons_append, List.nil_append]
theorem ents_out (m : Nat) : ∀ (j k : Nat) (n : Nd) (c : Cu), Fit n k → (ents j n c).2.bad = false → Fit (ents j n c).1 (k + j) ∧ out (ents j n c).1 m (k + j) ++ (ents j n c).2.b = out n m k ++ c.b ∧ c.bad = false ∧ (ents j n c).1.leaf = n.leaf
  | 0, k, n, c, hF, hb => by rw [ents] at hb ⊢; exact ⟨hF, rfl, hb, rfl⟩
  | j + 1, k, n, c, hF, hb => by
    rw [ents] at hb ⊢
    by_cases hc : c.bad = true
    · rw [if_pos hc] at hb; rw [hc] at hb; cases hb
    · rw [if_neg hc] at hb ⊢
      have hN : Fit (entN n c) (k + 1) → _ := fun h => ents_out m j (k + 1) (entN n c) (entC n.leaf c) h hb
      have hb' : (entC n.leaf c).bad = false := by
        cases hx : (entC n.leaf c).bad with
        | false => rfl
        | true => rw [ents_bad _ _ _ hx] at hb; rw [hx] at hb; cases hb
      obtain ⟨s1, s2, s3⟩ := out_entN (m := m) hF hb'
      obtain ⟨t1, t2, t3, t4⟩ := hN s1
      have e : k + (j + 1) = k + 1 + j := by omega
      rw [e]
      exact ⟨t1, by rw [t2, s3], s2, by rw [t4, entN_leaf]⟩
/-- what is read is what was written -/
theorem dec_ok {p : List UInt8} {n : Nd} (h : dec p = (n, 0)) : p.length = 512 ∧ check n = 0 ∧ size n ≤ 512 ∧ page n = p := by
  unfold dec at h
  split at h
  · cases h
  · rename_i hl
    split at h
    · cases h
    · rename_i hg
      have hl : p.length = 512 := by simpa using hl
      simp only [Bool.or_eq_true, not_or, Bool.and_eq_true, bne_iff_ne, ne_eq, Bool.not_eq_true, Decidable.not_not, not_and] at hg
      obtain ⟨⟨⟨hbad, hrest⟩, hkind⟩, hcheck⟩ := hg
      obtain rfl : (rd p).1 = n := by cases h; rfl
      unfold rd at hbad hrest hcheck ⊢
      have hfit : Fit (n0 p) 0 := by unfold n0 Fit; split <;> simp
      obtain ⟨t1, t2, t3, t4⟩ := ents_out (cnt p) (cnt p) 0 (n0 p) (c3 p) hfit hbad
      rw [Nat.zero_add] at t1 t2
      have h0 : out (n0 p) (cnt p) 0 ++ (c3 p).b = p ∧ (n0 p).leaf = decide (kind p = 1) := by
        rw [out_zero]
        have w1 := one_byte (tk_length 1 ⟨p, false⟩)
        have w2 := two_bytes (tk_length 2 (c1 p))
        have w3 := two_bytes (tk_length 2 (c2 p))
        unfold n0 c3 at *
        by_cases hk : kind p = 1
        · simp only [if_pos hk] at t3 ⊢
          obtain ⟨g4, g5, g6⟩ := tkc_bad t3
          obtain ⟨g7, g8, g9⟩ := tkc_bad g4
          simp only at g9
          refine ⟨?_, by simp [hk]⟩
          unfold hdr
          conv => rhs; rw [g9, ← w1]
          rw [show (tkc 1 ⟨p, false⟩) = c1 p from rfl]
          conv => rhs; rw [g6, ← w2]
          have : UInt8.ofNat ((tk 1 ⟨p, false⟩).getD 0 0).toNat = 1 := by
            have : kind p = ((tk 1 ⟨p, false⟩).getD 0 0).toNat := rfl
            rw [← this, hk]; rfl
          rw [this]
          simp [cnt, tw, c2]
        · simp only [if_neg hk] at t3 ⊢
          obtain ⟨g1, g2, g3⟩ := tkc_bad t3
          obtain ⟨g4, g5, g6⟩ := tkc_bad g1
          obtain ⟨g7, g8, g9⟩ := tkc_bad g4
          simp only at g9
          refine ⟨?_, by simp [hk]⟩
          unfold hdr
          conv => rhs; rw [g9, ← w1]
          rw [show (tkc 1 ⟨p, false⟩) = c1 p from rfl]
          conv => rhs; rw [g6, ← w2]
          rw [show (tkc 2 (c1 p)) = c2 p from rfl]
          conv => rhs; rw [g3, ← w3]
          have : UInt8.ofNat ((tk 1 ⟨p, false⟩).getD 0 0).toNat = 2 := by
            have h1 : kind p = ((tk 1 ⟨p, false⟩).getD 0 0).toNat := rfl
            rw [← h1, hkind hk]; rfl
          rw [this]
          have e9 : ((tw (c2 p) : Int)).toNat = tw (c2 p) := Int.toNat_natCast _
          simp only [List.getD_cons_zero, e9, Bool.false_eq_true, if_false, List.append_assoc, List.cons_append, List.nil_append]
          rfl
      rw [h0.1] at t2
      generalize hx : (ents (cnt p) (n0 p) (c3 p)) = x at *
      obtain ⟨hf, _, _⟩ := check_zero hcheck
      have hn : x.1.keys.length = cnt p := t1.1
      have he : enc x.1 = out x.1 (cnt p) (cnt p) := by unfold enc; rw [hn]
      rw [← he] at t2
      have hel := enc_length hf
      have hlen : (enc x.1).length + x.2.b.length = 512 := by rw [← hl, ← t2, List.length_append]
      refine ⟨hl, hcheck, by omega, ?_⟩
      unfold page
      conv => rhs; rw [← t2]
      congr 1
      have hz : ∀ y ∈ x.2.b, y = 0 := by
        intro y hy
        simp only [List.any_eq_false, bne_iff_ne, ne_eq, Decidable.not_not] at hrest
        exact hrest y hy
      rw [show 512 - (enc x.1).length = x.2.b.length by omega]
      exact (List.eq_replicate_iff.2 ⟨rfl, hz⟩).symm
theorem dec_cases (p : List UInt8) : (p.length ≠ 512 ∧ dec p = (none0, 2)) ∨ (p.length = 512 ∧ (dec p = (none0, 3) ∨ ∃ n, dec p = (n, 0))) := by
  unfold dec
  by_cases h : p.length = 512
  · rw [if_neg (by simpa using h)]
    refine .inr ⟨h, ?_⟩
    split
    · exact .inl rfl
    · exact .inr ⟨_, rfl⟩
  · rw [if_pos h]; exact .inl ⟨h, rfl⟩
end Go.Proofs.Ytfmbbpfklhkljaa
