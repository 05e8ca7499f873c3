/- drive.Used: the sum over a map, in whatever order it comes. -/
import Derived.Test.YtpgpncngamagdaaDS
import Derived.Maps.RangeWalk
import Derived.Sort.KeysCollected
import Derived.Laws.IdiomRangeMap
import Derived.LoopN
set_option linter.unusedVariables false
set_option linter.unusedSimpArgs false
namespace Go.Proofs.Ytpgpncngamagdaa
open Go.RowKit
attribute [local go_sem ↓] Go.wp_at_zero Go.wp_at_succ
def remn (F : Fl) (left : Lit → Bool) : Nat := ((F.filter (fun a => left (.string a.1))).map (fun a => a.2.length)).sum
theorem remn_all {F : Fl} {left : Lit → Bool} (h : ∀ a ∈ F, left (.string a.1) = true) : remn F left = tot F := by
  unfold remn tot; rw [List.filter_eq_self.2 h]
theorem remn_none {F : Fl} {left : Lit → Bool} (h : ∀ kl, left kl = false) : remn F left = 0 := by
  unfold remn; rw [List.filter_eq_nil_iff.2 (fun a _ => by simp [h])]; rfl
theorem remn_cons (a : By × By) (r : Fl) (left : Lit → Bool) : remn (a :: r) left = (if left (.string a.1) then a.2.length else 0) + remn r left := by
  unfold remn
  rw [List.filter_cons]
  split <;> simp
theorem remn_le (F : Fl) (left : Lit → Bool) : remn F left ≤ tot F := by
  induction F with
  | nil => simp [remn, tot]
  | cons a r ih =>
    rw [remn_cons]
    simp only [tot, List.map_cons, List.sum_cons] at ih ⊢
    split <;> omega
theorem remn_step {F : Fl} (hF : Srt F) {s l : By} {left : Lit → Bool} (h : fget F s = some l) (hl : left (.string s) = true) : remn F (fun z => left z && !z.sameKey (.string s)) + l.length = remn F left := by
  induction F with
  | nil => cases h
  | cons a r ih =>
    obtain ⟨x, y⟩ := a
    have h2 := (List.pairwise_cons.1 hF).1
    rw [remn_cons, remn_cons]
    rw [fget] at h
    by_cases e : s = x
    · subst e
      rw [if_pos rfl] at h
      cases h
      have e1 : ((Lit.string s).sameKey (.string s)) = true := by simp [Lit.sameKey]
      have e2 : remn r (fun z => left z && !z.sameKey (.string s)) = remn r left := by
        unfold remn
        congr 2
        refine List.filter_congr fun a ha => ?_
        have : a.1 ≠ s := fun e => by have := h2 a ha; simp only at this; rw [e] at this; exact by_irr _ this
        have e3 : ((Lit.string a.1).sameKey (.string s)) = false := by simp [Lit.sameKey, this]
        simp [e3]
      simp only [e1, hl, e2]
      simp
      omega
    · rw [if_neg e] at h
      have e1 : ((Lit.string x).sameKey (.string s)) = false := by simp [Lit.sameKey]; exact fun h => e h.symm
      have := ih hF.tail h
      simp only [e1, Bool.not_false, Bool.and_true]
      omega
set_option maxRecDepth 100000 in
set_option maxHeartbeats 2000000 in
/-- drive.Used -/
theorem used_any {M D : Nat → Prop} {w : World} {b : Nat} {ms mv : Option Nat} {q : Value} {d : Dm} (h : w.heap[b]? = some (.cells #[.map ms, .map mv, q, .int .i64 d.room, .bool d.armed, .int .i64 d.left, .bool d.dead] 46 (0, 0))) (hF : FilesIs M D w mv d.seen) (ht : tot d.seen ≤ lim) :
    Calls Try.prog 24 #[.pointer (some ⟨b, 0, none⟩)] w fun e w' => e = .returned (.int .i64 (tot d.seen)) ∧ Below w.heap.size w w' := by
  obtain ⟨⟨c0, c1, c2, c3, c4, c5, c6⟩, c7⟩ := box7 h
  have hb : b < w.heap.size := (Array.getElem?_eq_some_iff.1 h).1
  unfold lim at ht
  clear h c0 c2 c3 c4 c5 c6
  rcases hF with ⟨rfl, hs⟩ | ⟨k, rfl, _, hS, g, hm, hg⟩
  · rw [hs]
    have hrg := run_range_nilMap (P := Try.prog) w 43 9 22 Try.underlying43
    have hnx : ∀ ty, (Instr.next (.pointer (some ⟨w.heap.size, 0, none⟩)) false ty).run Try.prog (w.alloc (.mapIter none 0 #[] 0)) = _ := fun ty => run_next_nilMap w ty 0 0 #[]
    clear hs ht
    go_enter Try.func24, Try.ntmps24
    go_wp2
    refine wp_loop_rounds 1 ?_
    rw [rounds_succ]
    go_wp2
    go_ret
    exact ⟨rfl, up_alloc _ _⟩
  · generalize d.seen = F at *
    obtain ⟨Dd, hown, hsz, hT, hf⟩ := hm
    have hstart : remn F (Maps.has Dd) = tot F := remn_all fun a ha => by
      have h1 := fget_of_mem hS (s := a.1) (l := a.2) ha
      rw [(hf a.1).1]
      rcases hg a.1 with ⟨_, e⟩ | ⟨v, l, e, _⟩
      · rw [h1] at e; cases e
      · rw [e]; rfl
    have HG := Hid.mk' hg
    have HF := Hid.mk' hf
    have HS := Hid.mk' hS
    have HT := Hid.mk' hstart
    clear hg hf hS hstart hT
    go_enter Try.func24, Try.ntmps24
    go_wp2_with (first | (at_range; refine wpList_range_own _ rfl (.tmp 9) 43 rfl 9 22 (Maps.string_keyed Try.underlying9) Try.underlying43 hR k F.length Dd rfl hown ?_; intro w0 hrg0 hg0 hs0) | go_in)
    go_frame
    go_loopw [3] (fun s wr => ∃ (left : Lit → Bool) (cnt t : Nat), wr.ranges Try.prog 9 hR k w.heap.size F.length Dd left cnt ∧ s = .int .i64 t ∧ Hid (t + remn F left = tot F) ∧ Hid (Below w.heap.size w wr) ∧ w.heap.size < wr.heap.size) (fun _ wr => wr.rangeLeft k w.heap.size)
    case atStart =>
      exact ⟨_, _, 0, hrg0, rfl, (show _ = _ by rw [HT.out]; omega), ⟨hg0.os, hg0.tape, hg0.output, hg0.size, fun i hi => hg0.block i hi (by simp)⟩, by omega⟩
    case round =>
      obtain ⟨left, cnt, t, hrg, rfl, HE, HB, hlt⟩ := hrel
      go_wp2_with (first
        | (at_next; refine wpList_next_ranges _ rfl (.tmp 10) rfl 9 (Maps.string_keyed Try.underlying9) hR id id (fun key _ _ => ⟨key, rfl⟩) (fun v _ _ => ⟨v, rfl⟩) k w.heap.size F.length _ _ _ rfl hrg ?_ ?_)
        | go_in)
      · intro hc0 hl0
        have e : t = tot F := by have := HE.out; rw [remn_none hl0] at this; omega
        subst e
        go_wp2
        go_ret
        exact ⟨rfl, HB.out⟩
      · intro x c kl yd yp w1 cnt1 hkey hlk hv hat hrg1 hlt1 hg1 hs1 hen
        obtain ⟨s, rfl, rfl, hsl⟩ := Maps.keyOf_str Try.underlying9 hkey
        simp only [hR, Option.some.injEq, Prod.mk.injEq] at hv
        obtain ⟨rfl, rfl⟩ := hv
        have f1 := (HF.out s).2 (.bool true)
        have f2 := (HF.out s).2 (.bool false)
        rw [hat] at f1 f2
        obtain ⟨l, hl, hc⟩ : ∃ l, fget F s = some l ∧ Bs D w c l := by
          rcases HG.out s with ⟨e, _⟩ | ⟨v, l, e1, e2, e3⟩
          · rw [e] at f1 f2
            simp only [Option.getD_none, DataW.held.injEq] at f1 f2
            rw [f1] at f2; cases f2
          · rw [e1] at f1
            simp only [Option.getD_some, DataW.held.injEq] at f1
            subst f1
            exact ⟨l, e2, e3⟩
        obtain ⟨a, cc, rfl, _⟩ := hc.at
        have hrs := remn_step HS.out hl hlk
        have hle := remn_le F left
        have hte := HE.out
        have b1 : (0 : Int) ≤ (t : Int) + (l.length : Int) := by omega
        have b2 : (t : Int) + (l.length : Int) ≤ 140737488351232 := by omega
        have HE2 : Hid (t + l.length + remn F (fun z => left z && !z.sameKey (.string s)) = tot F) := by show _ = _; omega
        have HB2 : Hid (Below w.heap.size w w1) := HB.out.grown hg1 HB.out.size (fun k hk => by cases hk; exact Nat.le_refl _)
        clear f1 f2 hl hc hrs hle hte HE HB hat hkey hlk hg1
        go_wp2
        go_roundw
        case rel => exact ⟨_, cnt1, t + l.length, hrg1, by go_num, HE2, HB2, by omega⟩
        case measure => rw [hrg1.left_eq, hrg.left_eq]; exact hlt1
end Go.Proofs.Ytpgpncngamagdaa
