/- Plain laws for layer 2: orders, names' pieces, patterns, quotes. No program is named here. -/
set_option linter.unusedVariables false
namespace Go.Proofs.YtojgkjpmphfakaaGreatDoor
namespace PL
/-- three-way comparison of bytes, of lists of bytes -/
def cmp : List UInt8 → List UInt8 → Int
  | [], [] => 0
  | [], _ :: _ => -1
  | _ :: _, [] => 1
  | x :: l, y :: m => if x.toNat < y.toNat then -1 else if y.toNat < x.toNat then 1 else cmp l m

structure Ord3 {α : Type} (c : α → α → Int) : Prop where
  anti : ∀ a b, c b a = - c a b
  trans : ∀ a b d, c a b ≤ 0 → c b d ≤ 0 → c a d ≤ 0

theorem Ord3.refl {α : Type} {c : α → α → Int} (h : Ord3 c) (a : α) : c a a = 0 := by have := h.anti a a; omega
theorem Ord3.lt_left {α : Type} {c : α → α → Int} (h : Ord3 c) {a b d : α} (h1 : c a b < 0) (h2 : c b d ≤ 0) : c a d < 0 := by
  have h3 := h.trans a b d (by omega) h2
  by_cases h0 : c a d = 0
  · have := h.trans b d a h2 (by rw [h.anti a d]; omega)
    rw [h.anti a b] at this
    omega
  · omega
theorem Ord3.lt_right {α : Type} {c : α → α → Int} (h : Ord3 c) {a b d : α} (h1 : c a b ≤ 0) (h2 : c b d < 0) : c a d < 0 := by
  have h3 := h.trans a b d h1 (by omega)
  by_cases h0 : c a d = 0
  · have := h.trans d a b (by rw [h.anti a d]; omega) h1
    rw [h.anti b d] at this
    omega
  · omega

/-- first by c, then by c' -/
def both {α : Type} (c c' : α → α → Int) (a b : α) : Int := if c a b ≠ 0 then c a b else c' a b
theorem both_ord {α : Type} {c c' : α → α → Int} (h : Ord3 c) (h' : Ord3 c') : Ord3 (both c c') := by
  constructor
  · intro a b
    have := h.anti a b
    have := h'.anti a b
    unfold both
    split <;> split <;> omega
  · intro a b d h1 h2
    unfold both at *
    by_cases e1 : c a b = 0
    · by_cases e2 : c b d = 0
      · have h3 := h.trans a b d (by omega) (by omega)
        have h4 := h.trans d b a (by rw [h.anti b d]; omega) (by rw [h.anti a b]; omega)
        rw [h.anti a d] at h4
        rw [if_neg (by omega)] at h1 h2
        rw [if_neg (by omega)]
        exact h'.trans a b d h1 h2
      · rw [if_pos e2] at h2
        have := h.lt_right (a := a) (b := b) (d := d) (by omega) (by omega)
        rw [if_pos (by omega)]; omega
    · rw [if_pos e1] at h1
      have h2' : c b d ≤ 0 := by
        by_cases e2 : c b d = 0
        · omega
        · rw [if_pos e2] at h2; exact h2
      have := h.lt_left (a := a) (b := b) (d := d) (by omega) h2'
      rw [if_pos (by omega)]; omega

/-- by a key -/
theorem key_ord {α β : Type} {c : β → β → Int} (h : Ord3 c) (k : α → β) : Ord3 (fun a b => c (k a) (k b)) := ⟨fun a b => h.anti _ _, fun a b d => h.trans _ _ _⟩

/-- element by element -/
def lex {α : Type} (c : α → α → Int) : List α → List α → Int
  | [], [] => 0
  | [], _ :: _ => -1
  | _ :: _, [] => 1
  | x :: l, y :: m => if c x y ≠ 0 then c x y else lex c l m
theorem lex_ord {α : Type} {c : α → α → Int} (h : Ord3 c) : Ord3 (lex c) := by
  constructor
  · intro a
    induction a with
    | nil => intro b; cases b <;> rfl
    | cons x l ih =>
      intro b
      cases b with
      | nil => rfl
      | cons y m =>
        have := h.anti x y
        have := ih m
        simp only [lex]
        split <;> split <;> omega
  · intro a
    induction a with
    | nil => intro b d _ _; cases d <;> simp [lex]
    | cons x l ih =>
      intro b d h1 h2
      cases b with
      | nil => simp [lex] at h1
      | cons y m =>
        cases d with
        | nil => simp [lex] at h2
        | cons z r =>
          simp only [lex] at *
          by_cases e1 : c x y = 0
          · by_cases e2 : c y z = 0
            · have h3 := h.trans x y z (by omega) (by omega)
              have h4 := h.trans z y x (by rw [h.anti y z]; omega) (by rw [h.anti x y]; omega)
              rw [h.anti x z] at h4
              rw [if_neg (by omega)] at h1 h2
              rw [if_neg (by omega)]
              exact ih m r h1 h2
            · rw [if_pos e2] at h2
              have := h.lt_right (a := x) (b := y) (d := z) (by omega) (by omega)
              rw [if_pos (by omega)]; omega
          · rw [if_pos e1] at h1
            have h2' : c y z ≤ 0 := by
              by_cases e2 : c y z = 0
              · omega
              · rw [if_pos e2] at h2; exact h2
            have := h.lt_left (a := x) (b := y) (d := z) (by omega) h2'
            rw [if_pos (by omega)]; omega

def natC (a b : Nat) : Int := if a < b then -1 else if b < a then 1 else 0
theorem nat_ord : Ord3 natC := by
  constructor
  · intro a b; unfold natC; split <;> split <;> first | omega | (split <;> omega) | rfl
  · intro a b d; unfold natC; intro h1 h2; repeat' split at h1; all_goals repeat' split at h2
    all_goals (repeat' split) <;> omega
theorem cmp_lex (a b : List UInt8) : cmp a b = lex (fun x y => natC x.toNat y.toNat) a b := by
  induction a generalizing b with
  | nil => cases b <;> rfl
  | cons x l ih =>
    cases b with
    | nil => rfl
    | cons y m =>
      simp only [cmp, lex, natC, ih]
      split
      · simp
      · split <;> simp
theorem cmp_ord : Ord3 cmp := by
  have h := lex_ord (key_ord nat_ord (fun x : UInt8 => x.toNat))
  exact ⟨fun a b => by rw [cmp_lex, cmp_lex]; exact h.anti a b, fun a b d h1 h2 => by rw [cmp_lex] at *; exact h.trans a b d h1 h2⟩
theorem cmp_zero (a b : List UInt8) : cmp a b = 0 ↔ a = b := by
  induction a generalizing b with
  | nil => cases b <;> simp [cmp]
  | cons x l ih =>
    cases b with
    | nil => simp [cmp]
    | cons y m =>
      simp only [cmp]
      split
      · rename_i h; constructor
        · intro h'; omega
        · intro h'; cases h'; omega
      · split
        · rename_i h; constructor
          · intro h'; omega
          · intro h'; cases h'; omega
        · rw [ih]
          have : x = y := by apply UInt8.toNat_inj.1; omega
          subst this; simp

def dgt (c : UInt8) : Bool := 48 ≤ c.toNat && c.toNat ≤ 57
def ltr (c : UInt8) : Bool := 97 ≤ c.toNat && c.toNat ≤ 122
/-- where the first piece of a text ends -/
def pcN (x : List UInt8) : Nat := max 1 (x.takeWhile dgt).length
/-- a number's text without noughts ahead -/
def numb (x : List UInt8) : List UInt8 := x.dropWhile (· == 48)
def numC (a b : List UInt8) : Int := both (fun a b => natC a.length b.length) cmp a b
def pieceC (p q : List UInt8) : Int :=
  match p, q with
  | a :: _, b :: _ => if dgt a && dgt b then numC (numb p) (numb q) else natC a.toNat b.toNat
  | _, _ => 0
theorem pcN_pos (x : List UInt8) : 1 ≤ pcN x := by unfold pcN; omega
def core (x y : List UInt8) : Int :=
  match x, y with
  | [], [] => 0
  | [], _ :: _ => -1
  | _ :: _, [] => 1
  | a :: x, b :: y =>
    let c := pieceC ((a :: x).take (pcN (a :: x))) ((b :: y).take (pcN (b :: y)))
    if c ≠ 0 then c else core ((a :: x).drop (pcN (a :: x))) ((b :: y).drop (pcN (b :: y)))
termination_by x.length
decreasing_by have := pcN_pos (a :: x); simp; omega
def comp (a b : List UInt8) : Int := both core cmp a b

/-! a text as pieces -/
def toks (x : List UInt8) : List (List UInt8) :=
  match x with
  | [] => []
  | a :: x => (a :: x).take (pcN (a :: x)) :: toks ((a :: x).drop (pcN (a :: x)))
termination_by x.length
decreasing_by have := pcN_pos (a :: x); simp; omega
/-- a piece's rank: below the digits, a number, above the digits -/
def keyC (p q : List UInt8) : Int := both (fun p q => natC (match p with | a :: _ => if dgt a then 48 else a.toNat | [] => 0) (match q with | a :: _ => if dgt a then 48 else a.toNat | [] => 0)) (fun p q => numC (match p with | a :: _ => if dgt a then numb p else [] | [] => []) (match q with | a :: _ => if dgt a then numb q else [] | [] => [])) p q
theorem numC_ord : Ord3 numC := both_ord (key_ord nat_ord List.length) cmp_ord
theorem keyC_ord : Ord3 keyC := both_ord (key_ord nat_ord _) (key_ord numC_ord _)
theorem piece_key (p q : List UInt8) (hp : p ≠ []) (hq : q ≠ []) : (pieceC p q = 0 ↔ keyC p q = 0) ∧ (pieceC p q < 0 ↔ keyC p q < 0) := by
  cases p with
  | nil => exact absurd rfl hp
  | cons a p =>
    cases q with
    | nil => exact absurd rfl hq
    | cons b q =>
      have hz : numC [] [] = 0 := by decide
      unfold pieceC keyC both
      by_cases ha : dgt a = true <;> by_cases hb : dgt b = true
      · simp only [ha, hb, Bool.and_self, if_true]
        have : natC 48 48 = 0 := by decide
        rw [if_neg (by rw [this]; simp)]
        exact ⟨Iff.rfl, Iff.rfl⟩
      · have hb' : dgt b = false := by simpa using hb
        simp only [ha, hb', Bool.and_false, if_true, Bool.false_eq_true, if_false]
        simp only [dgt, Bool.and_eq_true, decide_eq_true_eq, Bool.and_eq_false_iff, decide_eq_false_iff_not] at ha hb'
        unfold natC
        constructor <;> constructor <;> intro h
        all_goals (repeat' split at h) <;> (repeat' split) <;> first | omega | rfl | exact absurd rfl h
      · have ha' : dgt a = false := by simpa using ha
        simp only [ha', hb, Bool.false_and, if_true, Bool.false_eq_true, if_false]
        simp only [dgt, Bool.and_eq_true, decide_eq_true_eq, Bool.and_eq_false_iff, decide_eq_false_iff_not] at ha' hb
        unfold natC
        constructor <;> constructor <;> intro h
        all_goals (repeat' split at h) <;> (repeat' split) <;> first | omega | rfl | exact absurd rfl h
      · have ha' : dgt a = false := by simpa using ha
        have hb' : dgt b = false := by simpa using hb
        simp only [ha', hb', Bool.false_and, Bool.false_eq_true, if_false, hz]
        constructor
        · constructor
          · intro h; rw [h]; simp
          · intro h; split at h
            · exact h
            · rename_i h0; simpa using h0
        · constructor
          · intro h; rw [if_pos (by omega)]; exact h
          · intro h; split at h
            · exact h
            · omega
theorem core_lex : ∀ (n : Nat) (x y : List UInt8), x.length ≤ n → (core x y = 0 ↔ lex keyC (toks x) (toks y) = 0) ∧ (core x y < 0 ↔ lex keyC (toks x) (toks y) < 0) := by
  intro n
  induction n with
  | zero =>
    intro x y h
    have : x = [] := List.eq_nil_of_length_eq_zero (by omega)
    subst this
    cases y with
    | nil => simp [core, toks, lex]
    | cons b y => rw [core, toks, toks, lex]; simp
  | succ n ih =>
    intro x y h
    cases x with
    | nil =>
      cases y with
      | nil => simp [core, toks, lex]
      | cons b y => rw [core, toks, toks, lex]; simp
    | cons a x =>
      cases y with
      | nil => rw [core, toks, toks, lex]; simp
      | cons b y =>
        rw [core, toks, toks, lex]
        have hp := pcN_pos (a :: x)
        have hq := pcN_pos (b :: y)
        obtain ⟨k1, k2⟩ := piece_key ((a :: x).take (pcN (a :: x))) ((b :: y).take (pcN (b :: y))) (by intro e; have := congrArg List.length e; simp at this; omega) (by intro e; have := congrArg List.length e; simp at this; omega)
        obtain ⟨i1, i2⟩ := ih ((a :: x).drop (pcN (a :: x))) ((b :: y).drop (pcN (b :: y))) (by simp at h ⊢; omega)
        generalize pieceC _ _ = pc at *
        generalize keyC _ _ = kc at *
        generalize core _ _ = cc at *
        generalize lex keyC _ _ = lc at *
        by_cases h0 : pc = 0
        · rw [if_neg (by omega), if_neg (by omega)]; exact ⟨i1, i2⟩
        · rw [if_pos h0, if_pos (by omega)]; exact ⟨k1, k2⟩
def Tri (c : Int) : Prop := c = -1 ∨ c = 0 ∨ c = 1
theorem natC_tri (a b : Nat) : Tri (natC a b) := by unfold natC Tri; (repeat' split) <;> simp
theorem cmp_tri (a b : List UInt8) : Tri (cmp a b) := by
  induction a generalizing b with
  | nil => cases b <;> simp [cmp, Tri]
  | cons x l ih =>
    cases b with
    | nil => simp [cmp, Tri]
    | cons y m =>
      rw [cmp]; split
      · simp [Tri]
      · split
        · simp [Tri]
        · exact ih m
theorem both_tri {α : Type} {c c' : α → α → Int} {a b : α} (h : Tri (c a b)) (h' : Tri (c' a b)) : Tri (both c c' a b) := by
  unfold both; split
  · exact h
  · exact h'
theorem numC_tri (a b : List UInt8) : Tri (numC a b) := both_tri (natC_tri _ _) (cmp_tri _ _)
theorem pieceC_tri (p q : List UInt8) : Tri (pieceC p q) := by
  cases p with
  | nil => simp [pieceC, Tri]
  | cons a p =>
    cases q with
    | nil => simp [pieceC, Tri]
    | cons b q => simp only [pieceC]; split
                  · exact numC_tri _ _
                  · exact natC_tri _ _
theorem core_tri : ∀ (n : Nat) (x y : List UInt8), x.length ≤ n → Tri (core x y) := by
  intro n
  induction n with
  | zero =>
    intro x y h
    have : x = [] := List.eq_nil_of_length_eq_zero (by omega)
    subst this
    cases y <;> (rw [core]; simp [Tri])
  | succ n ih =>
    intro x y h
    cases x with
    | nil => cases y <;> (rw [core]; simp [Tri])
    | cons a x =>
      cases y with
      | nil => rw [core]; simp [Tri]
      | cons b y =>
        have hp := pcN_pos (a :: x)
        rw [core]
        have h1 := pieceC_tri ((a :: x).take (pcN (a :: x))) ((b :: y).take (pcN (b :: y)))
        have h2 := ih ((a :: x).drop (pcN (a :: x))) ((b :: y).drop (pcN (b :: y))) (by simp at h ⊢; omega)
        generalize pieceC _ _ = pc at *
        generalize core _ _ = cc at *
        show Tri (if pc ≠ 0 then pc else cc)
        split
        · exact h1
        · exact h2
theorem comp_tri (a b : List UInt8) : Tri (comp a b) := both_tri (core_tri _ _ _ (Nat.le_refl _)) (cmp_tri _ _)
def comp' (a b : List UInt8) : Int := both (fun x y => lex keyC (toks x) (toks y)) cmp a b
theorem comp'_ord : Ord3 comp' := both_ord (key_ord (lex_ord keyC_ord) toks) cmp_ord
theorem comp_sign (a b : List UInt8) : (comp a b = 0 ↔ comp' a b = 0) ∧ (comp a b < 0 ↔ comp' a b < 0) := by
  obtain ⟨h1, h2⟩ := core_lex _ a b (Nat.le_refl _)
  unfold comp comp' both
  by_cases h : core a b = 0
  · rw [if_neg (by simpa using h), if_neg (by simpa using h1.1 h)]; exact ⟨Iff.rfl, Iff.rfl⟩
  · rw [if_pos h, if_pos (fun e => h (h1.2 e))]; exact ⟨h1, h2⟩
theorem comp_ord : Ord3 comp := by
  constructor
  · intro a b
    have h1 := comp_sign a b
    have h2 := comp_sign b a
    have h3 := comp'_ord.anti a b
    have t1 := comp_tri a b
    have t2 := comp_tri b a
    unfold Tri at t1 t2
    omega
  · intro a b d h1 h2
    have k1 := comp_sign a b
    have k2 := comp_sign b d
    have k3 := comp_sign a d
    have h3 := comp'_ord.trans a b d (by omega) (by omega)
    omega
theorem comp_zero (a b : List UInt8) : comp a b = 0 ↔ a = b := by
  constructor
  · intro h
    unfold comp both at h
    split at h
    · rename_i h'; exact absurd h h'
    · exact (cmp_zero a b).1 h
  · rintro rfl; exact comp_ord.refl a

/-- s matches p: '*' any bytes, '?' one byte -/
def mt : List UInt8 → List UInt8 → Bool
  | s, [] => s.isEmpty
  | [], q :: p => q == 42 && mt [] p
  | c :: s, q :: p => if q == 42 then mt (c :: s) p || mt s (q :: p) else (q == 63 || q == c) && mt s p
termination_by s p => s.length + p.length

theorem mt_nil_left (p : List UInt8) : mt [] p = p.all (· == 42) := by
  induction p with
  | nil => simp [mt]
  | cons q p ih => simp [mt, ih]
theorem mt_star (s p : List UInt8) : mt s (42 :: p) = true ↔ ∃ k, k ≤ s.length ∧ mt (s.drop k) p = true := by
  induction s with
  | nil =>
    rw [mt]
    simp
  | cons c s ih =>
    rw [mt]
    simp only [beq_self_eq_true, if_true, Bool.or_eq_true, ih]
    constructor
    · rintro (h | ⟨k, hk, h⟩)
      · exact ⟨0, by omega, h⟩
      · exact ⟨k + 1, by simp; omega, by simpa using h⟩
    · rintro ⟨k, hk, h⟩
      cases k with
      | zero => exact Or.inl (by simpa using h)
      | succ k => exact Or.inr ⟨k, by simpa using hk, by simpa using h⟩
theorem mt_one (s : List UInt8) (q : UInt8) (p : List UInt8) (hq : q ≠ 42) : mt s (q :: p) = true ↔ ∃ c r, s = c :: r ∧ (q = 63 ∨ q = c) ∧ mt r p = true := by
  cases s with
  | nil => rw [mt]; simp [hq]
  | cons c s =>
    rw [mt, if_neg (by simpa using hq)]
    simp only [Bool.and_eq_true, Bool.or_eq_true, beq_iff_eq]
    constructor
    · intro h; exact ⟨c, s, rfl, h.1, h.2⟩
    · rintro ⟨x, r, h, hx, hm⟩; cases h; exact ⟨hx, hm⟩
/-- a pattern in two parts -/
theorem mt_app (p q : List UInt8) : ∀ s, mt s (p ++ q) = true ↔ ∃ k, k ≤ s.length ∧ mt (s.take k) p = true ∧ mt (s.drop k) q = true := by
  induction p with
  | nil =>
    intro s
    constructor
    · intro h; exact ⟨0, by omega, by simp [mt], by simpa using h⟩
    · rintro ⟨k, hk, h1, h2⟩
      rw [mt] at h1
      have : k = 0 ∨ s = [] := by
        simp at h1
        exact h1
      rcases this with rfl | rfl
      · simpa using h2
      · simpa using h2
  | cons c p ih =>
    intro s
    by_cases hc : c = 42
    · subst hc
      rw [List.cons_append, mt_star]
      constructor
      · rintro ⟨k, hk, h⟩
        obtain ⟨j, hj, h1, h2⟩ := (ih _).1 h
        rw [List.length_drop] at hj
        refine ⟨k + j, by omega, ?_, by rw [List.drop_drop] at h2; exact h2⟩
        rw [mt_star]
        refine ⟨k, by simp; omega, ?_⟩
        rw [List.drop_take, show k + j - k = j from by omega]
        exact h1
      · rintro ⟨k, hk, h1, h2⟩
        obtain ⟨j, hj, h1⟩ := (mt_star _ _).1 h1
        rw [List.length_take] at hj
        refine ⟨j, by omega, (ih _).2 ⟨k - j, by simp; omega, ?_, ?_⟩⟩
        · rw [List.drop_take] at h1; exact h1
        · rw [List.drop_drop, show j + (k - j) = k from by omega]; exact h2
    · rw [List.cons_append, mt_one _ _ _ hc]
      constructor
      · rintro ⟨x, r, rfl, hx, h⟩
        obtain ⟨k, hk, h1, h2⟩ := (ih _).1 h
        refine ⟨k + 1, by simpa using hk, ?_, by simpa using h2⟩
        rw [List.take_succ_cons, mt_one _ _ _ hc]
        exact ⟨x, _, rfl, hx, h1⟩
      · rintro ⟨k, hk, h1, h2⟩
        obtain ⟨x, r, hr, hx, h1⟩ := (mt_one _ _ _ hc).1 h1
        cases s with
        | nil => simp at hr
        | cons y s =>
          cases k with
          | zero => simp at hr
          | succ k =>
            rw [List.take_succ_cons] at hr
            cases hr
            exact ⟨_, s, rfl, hx, (ih _).2 ⟨k, by simpa using hk, h1, by simpa using h2⟩⟩
/-- a star between two patterns -/
theorem mt_between (s a b : List UInt8) : mt s (a ++ 42 :: b) = true ↔ ∃ i k, i ≤ k ∧ k ≤ s.length ∧ mt (s.take i) a = true ∧ mt (s.drop k) b = true := by
  rw [mt_app]
  constructor
  · rintro ⟨i, hi, h1, h2⟩
    obtain ⟨j, hj, h2⟩ := (mt_star _ _).1 h2
    rw [List.length_drop] at hj
    rw [List.drop_drop] at h2
    exact ⟨i, i + j, by omega, by omega, h1, h2⟩
  · rintro ⟨i, k, h, hk, h1, h2⟩
    exact ⟨i, by omega, h1, (mt_star _ _).2 ⟨k - i, by simp; omega, by rw [List.drop_drop, show i + (k - i) = k from by omega]; exact h2⟩⟩

/-! the reference's rows: prefix against prefix -/
/-- by the last byte of the pattern -/
theorem mt_snoc_star (s p : List UInt8) (c : UInt8) : mt (s ++ [c]) (p ++ [42]) = (mt (s ++ [c]) p || mt s (p ++ [42])) := by
  rw [Bool.eq_iff_iff, Bool.or_eq_true, mt_app, mt_app]
  have hs : ∀ r : List UInt8, mt r [42] = true := fun r => (mt_star r []).2 ⟨r.length, Nat.le_refl _, by simp [mt]⟩
  constructor
  · rintro ⟨k, hk, h1, h2⟩
    by_cases he : k = s.length + 1
    · left; rw [List.take_of_length_le (by simp; omega)] at h1; exact h1
    · right
      simp at hk
      rw [List.take_append_of_le_length (by omega)] at h1
      exact ⟨k, by omega, h1, hs _⟩
  · rintro (h | ⟨k, hk, h1, h2⟩)
    · exact ⟨s.length + 1, by simp, by rw [List.take_of_length_le (by simp)]; exact h, hs _⟩
    · exact ⟨k, by simp; omega, by rw [List.take_append_of_le_length hk]; exact h1, hs _⟩
theorem mt_snoc_one (s p : List UInt8) (c q : UInt8) (hq : q ≠ 42) : mt (s ++ [c]) (p ++ [q]) = ((q == 63 || q == c) && mt s p) := by
  rw [Bool.eq_iff_iff, mt_app]
  simp only [Bool.and_eq_true, Bool.or_eq_true, beq_iff_eq]
  constructor
  · rintro ⟨k, hk, h1, h2⟩
    obtain ⟨x, r, hr, hx, h3⟩ := (mt_one _ _ _ hq).1 h2
    rw [mt] at h3
    have hr0 : r = [] := by simpa using h3
    subst hr0
    have hl := congrArg List.length hr
    simp at hl hk
    have hk' : k = s.length := by omega
    subst hk'
    simp at hr h1
    subst hr
    exact ⟨hx, h1⟩
  · rintro ⟨hx, h⟩
    exact ⟨s.length, by simp, by simpa using h, by simp; exact (mt_one _ _ _ hq).2 ⟨c, [], rfl, hx, by simp [mt]⟩⟩
theorem mt_snoc_nil (s : List UInt8) (c : UInt8) : mt (s ++ [c]) [] = false := by rw [mt]; simp
theorem mt_nil_snoc (p : List UInt8) (q : UInt8) : mt [] (p ++ [q]) = (mt [] p && q == 42) := by
  rw [mt_nil_left, mt_nil_left]; simp

/-! the program's greedy way -/
/-- the bytes of a pattern that are no star -/
def plainN (p : List UInt8) : Nat := (p.filter (· != 42)).length
theorem mt_len : ∀ (s p : List UInt8), mt s p = true → plainN p ≤ s.length := by
  intro s p
  induction p generalizing s with
  | nil => intro _; simp [plainN]
  | cons q p ih =>
    intro h
    by_cases hq : q = 42
    · subst hq
      obtain ⟨k, hk, h⟩ := (mt_star _ _).1 h
      have := ih _ h
      simp [plainN] at *
      omega
    · obtain ⟨x, r, rfl, _, h⟩ := (mt_one _ _ _ hq).1 h
      have := ih _ h
      simp [plainN, hq] at *
      omega
/-- byte against byte, no star -/
def seg : List UInt8 → List UInt8 → Bool
  | [], [] => true
  | c :: s, q :: p => q != 42 && (q == 63 || q == c) && seg s p
  | _, _ => false
theorem seg_len : ∀ (s p : List UInt8), seg s p = true → s.length = p.length := by
  intro s
  induction s with
  | nil => intro p h; cases p <;> simp [seg] at h ⊢
  | cons c s ih =>
    intro p h
    cases p with
    | nil => simp [seg] at h
    | cons q p => simp [seg] at h; simp [ih p h.2]
theorem seg_mt : ∀ (s p r t : List UInt8), seg s p = true → mt (s ++ r) (p ++ t) = mt r t := by
  intro s
  induction s with
  | nil => intro p r t h; cases p <;> simp [seg] at h ⊢
  | cons c s ih =>
    intro p r t h
    cases p with
    | nil => simp [seg] at h
    | cons q p =>
      simp only [seg, Bool.and_eq_true, bne_iff_ne] at h
      rw [List.cons_append, List.cons_append, mt, if_neg (by simpa using h.1.1), ih p r t h.2, h.1.2, Bool.true_and]
theorem seg_snoc : ∀ (s p : List UInt8) (c q : UInt8), seg s p = true → q ≠ 42 → (q = 63 ∨ q = c) → seg (s ++ [c]) (p ++ [q]) = true := by
  intro s
  induction s with
  | nil => intro p c q h hq hc; cases p <;> simp [seg] at h ⊢; exact ⟨hq, hc⟩
  | cons x s ih =>
    intro p c q h hq hc
    cases p with
    | nil => simp [seg] at h
    | cons y p =>
      simp only [seg, Bool.and_eq_true, List.cons_append] at h ⊢
      exact ⟨h.1, ih p c q h.2 hq hc⟩
theorem seg_plain : ∀ (s p : List UInt8), seg s p = true → plainN p = p.length := by
  intro s
  induction s with
  | nil => intro p h; cases p <;> simp [seg, plainN] at h ⊢
  | cons c s ih =>
    intro p h
    cases p with
    | nil => simp [seg] at h
    | cons q p =>
      simp only [seg, Bool.and_eq_true, bne_iff_ne] at h
      have := ih p h.2
      simp [plainN, h.1.1] at this ⊢
      exact this
/-- a later star takes over -/
theorem star_over (s p r t : List UInt8) (h : seg s p = true) : mt (s ++ r) (42 :: (p ++ 42 :: t)) = mt r (42 :: t) := by
  rw [Bool.eq_iff_iff]
  constructor
  · intro hm
    obtain ⟨k, hk, hm⟩ := (mt_star _ _).1 hm
    obtain ⟨i, j, hij, hj, h1, hm⟩ := (mt_between _ _ _).1 hm
    rw [mt_star]
    rw [List.drop_drop] at hm
    have hl := seg_len s p h
    have h2 := mt_len _ _ h1
    rw [seg_plain s p h, List.length_take, List.length_drop, List.length_append] at h2
    rw [List.length_drop, List.length_append] at hj
    rw [List.length_append] at hk
    refine ⟨k + j - s.length, by omega, ?_⟩
    rw [List.drop_append, List.drop_of_length_le (by omega), List.nil_append] at hm
    exact hm
  · intro hm
    rw [mt_star]
    exact ⟨0, by omega, by rw [List.drop_zero, seg_mt _ _ _ _ h]; exact hm⟩
/-- the star takes one byte more where the rest doesn't go on -/
theorem star_more (c : UInt8) (s p : List UInt8) (h : mt (c :: s) p = false) : mt (c :: s) (42 :: p) = mt s (42 :: p) := by
  rw [mt]; simp [h]

def dgx (d : Nat) : UInt8 := if d < 10 then UInt8.ofNat (48 + d) else UInt8.ofNat (87 + d)
def hx (c : UInt8) : Option Nat := if 48 ≤ c.toNat ∧ c.toNat ≤ 57 then some (c.toNat - 48) else if 97 ≤ c.toNat ∧ c.toNat ≤ 102 then some (c.toNat - 87) else none
def qb (c : UInt8) : List UInt8 := if c = 34 ∨ c = 92 then [92, c] else if 32 ≤ c.toNat ∧ c.toNat ≤ 126 then [c] else [92, 120, dgx (c.toNat / 16), dgx (c.toNat % 16)]
def quote (b : List UInt8) : List UInt8 := 34 :: (b.flatMap qb ++ [34])
def plain (c : UInt8) : Bool := 32 ≤ c.toNat && c.toNat ≤ 126 && c != 34 && c != 92
/-- what stands behind a backslash: the byte and how long it is, or the error -/
def esc (s : List UInt8) : Except Int (UInt8 × Nat) :=
  match s with
  | [] => .error 5
  | c :: r =>
    if c = 34 ∨ c = 92 then .ok (c, 1)
    else if c ≠ 120 then .error 3
    else match r with
      | [] => .error 5
      | d :: r => match hx d with
        | none => .error 3
        | some x => match r with
          | [] => .error 5
          | e :: r => match hx e with
            | none => .error 3
            | some y => if 32 ≤ x * 16 + y ∧ x * 16 + y ≤ 126 then .error 3 else .ok (UInt8.ofNat (x * 16 + y), 3)
theorem esc_len {s : List UInt8} {b : UInt8} {n : Nat} (h : esc s = .ok (b, n)) : 1 ≤ n ∧ n ≤ s.length := by
  unfold esc at h
  repeat' split at h
  all_goals first | (cases h; simp) | cases h
def uq (s acc : List UInt8) : Except Int (List UInt8) :=
  match s with
  | [] => .error 5
  | c :: r =>
    if c = 34 then (if r = [] then .ok acc else .error 3)
    else if plain c then uq r (acc ++ [c])
    else if c = 92 then match h : esc r with
      | .error e => .error e
      | .ok (b, n) => uq (r.drop n) (acc ++ [b])
    else .error 3
termination_by s.length
decreasing_by
  · simp
  · simp; omega
def unquote (s : List UInt8) : Except Int (List UInt8) :=
  match s with
  | [] => .error 5
  | c :: r => if c = 34 then uq r [] else .error 3

theorem hx_dgx (d : Nat) (h : d < 16) : hx (dgx d) = some d := by
  have : ∀ d : Fin 16, hx (dgx d.val) = some d.val := by decide
  exact this ⟨d, h⟩
theorem dgx_hx (c : UInt8) (x : Nat) (h : hx c = some x) : dgx x = c ∧ x < 16 := by
  have : ∀ n : Fin 256, ∀ x, hx (UInt8.ofNat n.val) = some x → dgx x = UInt8.ofNat n.val ∧ x < 16 := by
    intro n x hx'
    have hx2 : (hx (UInt8.ofNat n.val)).getD 99 = x := by rw [hx']; rfl
    have hne : hx (UInt8.ofNat n.val) ≠ none := by rw [hx']; simp
    subst hx2
    revert n
    decide +kernel
  have h2 := this ⟨c.toNat, c.toNat_lt⟩ x (by simpa using h)
  simpa using h2
theorem uq_qb (c : UInt8) (r acc : List UInt8) : uq (qb c ++ r) acc = uq r (acc ++ [c]) := by
  unfold qb
  split
  · rename_i h
    have hp : plain 92 = false := by decide
    have he : esc (c :: r) = .ok (c, 1) := by unfold esc; simp [h]
    show uq (92 :: c :: r) acc = _
    rw [uq, if_neg (by decide), hp, if_neg (by simp), if_pos rfl]
    split
    · rename_i e h'; rw [he] at h'; cases h'
    · rename_i b n h'; rw [he] at h'; cases h'; simp
  · rename_i h
    split
    · rename_i h2
      have hp : plain c = true := by
        unfold plain; simp; exact ⟨⟨h2, fun e => h (Or.inl e)⟩, fun e => h (Or.inr e)⟩
      show uq (c :: r) acc = _
      rw [uq, if_neg (fun e => h (Or.inl e)), hp, if_pos rfl]
    · rename_i h2
      have hp : plain 92 = false := by decide
      have hc := c.toNat_lt
      have e1 : c.toNat / 16 * 16 + c.toNat % 16 = c.toNat := by omega
      have he : esc (120 :: dgx (c.toNat / 16) :: dgx (c.toNat % 16) :: r) = .ok (c, 3) := by
        unfold esc
        simp only [hx_dgx _ (show c.toNat / 16 < 16 by omega), hx_dgx _ (show c.toNat % 16 < 16 by omega), e1]
        rw [if_neg (by decide), if_neg (by decide), if_neg h2]
        simp
      show uq (92 :: 120 :: dgx (c.toNat / 16) :: dgx (c.toNat % 16) :: r) acc = _
      rw [uq, if_neg (by decide), hp, if_neg (by simp), if_pos rfl]
      split
      · rename_i e h'; rw [he] at h'; cases h'
      · rename_i b n h'; rw [he] at h'; cases h'; rfl
theorem uq_quote (b acc : List UInt8) : uq (b.flatMap qb ++ [34]) acc = .ok (acc ++ b) := by
  induction b generalizing acc with
  | nil => simp [uq]
  | cons c b ih =>
    rw [List.flatMap_cons, List.append_assoc, uq_qb, ih]
    simp
theorem unquote_quote (b : List UInt8) : unquote (quote b) = .ok b := by
  simp only [unquote, quote, if_true]
  rw [uq_quote]; rfl
theorem esc_inv {s : List UInt8} {b : UInt8} {n : Nat} (h : esc s = .ok (b, n)) : qb b = 92 :: s.take n := by
  unfold esc at h
  split at h
  · cases h
  · rename_i c r
    split at h
    · rename_i hc; cases h
      unfold qb; rw [if_pos hc]; simp
    · rename_i hc
      split at h
      · cases h
      · rename_i hx'
        have hx' : c = 120 := by simpa using hx'
        subst hx'
        split at h
        · cases h
        · rename_i d r
          split at h
          · cases h
          · rename_i x hdx
            split at h
            · cases h
            · rename_i e r
              split at h
              · cases h
              · rename_i y hey
                split at h
                · cases h
                · rename_i hn
                  cases h
                  obtain ⟨d1, d2⟩ := dgx_hx _ _ hdx
                  obtain ⟨d3, d4⟩ := dgx_hx _ _ hey
                  have hm : (x * 16 + y) % 256 = x * 16 + y := by omega
                  unfold qb
                  have t : (UInt8.ofNat (x * 16 + y)).toNat = x * 16 + y := by simp; omega
                  rw [if_neg, t, if_neg hn, show (x * 16 + y) / 16 = x from by omega, show (x * 16 + y) % 16 = y from by omega, d1, d3]
                  · simp
                  · intro hh
                    have : (UInt8.ofNat (x * 16 + y)).toNat = 34 ∨ (UInt8.ofNat (x * 16 + y)).toNat = 92 := by
                      rcases hh with hh | hh <;> rw [hh] <;> decide
                    omega
theorem uq_inv : ∀ (n : Nat) (s acc x : List UInt8), s.length ≤ n → uq s acc = .ok x → ∃ y, x = acc ++ y ∧ s = y.flatMap qb ++ [34] := by
  intro n
  induction n with
  | zero =>
    intro s acc x hl h
    have : s = [] := List.eq_nil_of_length_eq_zero (by omega)
    subst this; rw [uq] at h; cases h
  | succ n ih =>
    intro s acc x hl h
    cases s with
    | nil => rw [uq] at h; cases h
    | cons c r =>
      rw [uq] at h
      split at h
      · rename_i hc
        split at h
        · rename_i hr; cases h; subst hc; subst hr; exact ⟨[], by simp, rfl⟩
        · cases h
      · rename_i hc
        split at h
        · rename_i hp
          obtain ⟨y, rfl, rfl⟩ := ih r (acc ++ [c]) x (by simpa using hl) h
          refine ⟨c :: y, by simp, ?_⟩
          have : qb c = [c] := by
            unfold plain at hp; simp at hp
            unfold qb; rw [if_neg (by simp [hp]), if_pos hp.1.1]
          simp [this]
        · split at h
          · rename_i hb
            split at h
            · cases h
            · rename_i b m he
              obtain ⟨h1, h2⟩ := esc_len he
              obtain ⟨y, rfl, hy⟩ := ih (r.drop m) (acc ++ [b]) x (by simp at hl ⊢; omega) h
              refine ⟨b :: y, by simp, ?_⟩
              rw [List.flatMap_cons, esc_inv he, hb, List.append_assoc, ← hy]
              simp
          · cases h
theorem quote_unquote (s x : List UInt8) (h : unquote s = .ok x) : quote x = s := by
  unfold unquote at h
  split at h
  · cases h
  · rename_i c r
    split at h
    · rename_i hc
      obtain ⟨y, hy, hr⟩ := uq_inv _ r [] x (Nat.le_refl _) h
      simp at hy; subst hy
      unfold quote; rw [hc, hr]
    · cases h

end PL
end Go.Proofs.YtojgkjpmphfakaaGreatDoor
