/- Remove, Flush, dead at a drive of the call's own. -/
import Derived.Test.YtpgpncngamagdaaRPl
set_option linter.unusedVariables false
set_option linter.unusedSimpArgs false
namespace Go.Proofs.Ytpgpncngamagdaa
open Go.RowKit
theorem rw_remove {w wx : World} {b : Nat} {d : Dm} (n : By) (h : Rw w b d wx) (hn : n.length ≤ maxLen) (hl : d.seen.length ≤ 1000) (hq : d.queue.length ≤ 1000) : Calls Try.prog 55 #[.pointer (some ⟨b, 0, none⟩), .string ⟨n.toArray⟩] wx fun E w' => E = .returned (.int .i64 (rawE d (thE d n))) ∧ Rw w b (rawD d (.rem n) (thE d n)) w' := by
  obtain ⟨h1, M, D, h2, h3, h4⟩ := h
  refine (remove_any n h2 hn (by unfold maxLen; omega) (by omega)).mono ?_
  rintro E w' ⟨e, ht⟩
  exact ⟨e, Rw.turn h1 h3 h4 ht⟩
theorem rw_flush {w wx : World} {b : Nat} {d : Dm} (h : Rw w b d wx) : Calls Try.prog 22 #[.pointer (some ⟨b, 0, none⟩)] wx fun E w' => E = .returned (.int .i64 (rawE d 0)) ∧ Rw w b (flD d) w' := by
  obtain ⟨h1, M, D, h2, h3, h4⟩ := h
  refine (flush_any h2).mono ?_
  rintro E w' ⟨e, ht⟩
  exact ⟨e, Rw.turn h1 h3 h4 ht⟩
theorem rw_dead {w wx : World} {b : Nat} {d : Dm} (h : Rw w b d wx) : Calls Try.prog 31 #[.pointer (some ⟨b, 0, none⟩)] wx fun E w' => E = .returned (.bool d.dead) ∧ wx = w' := by
  obtain ⟨h1, M, D, h2, h3, h4⟩ := h
  exact dead_any h2
theorem rw_queue {w wx : World} {b : Nat} {d : Dm} (h : Rw w b d wx) : True := trivial
end Go.Proofs.Ytpgpncngamagdaa
