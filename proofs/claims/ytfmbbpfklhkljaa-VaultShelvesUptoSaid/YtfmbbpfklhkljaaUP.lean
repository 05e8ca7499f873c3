/- A region that draws its order, whose operations read and whose callees may make memory: one walk. No program is named here. -/
import Derived.Test.YtfmbbpfklhkljaaKit
import Derived.Deep.QuietTactic
import Derived.BigQuiet
set_option linter.unusedVariables false
namespace Go.Proofs.Ytfmbbpfklhkljaa
open Go.RowKit
/-- a world behind w in which all that lay in w lies as it lay -/
structure Ups (w : World) where
  nx : World
  ok : Below w.heap.size w nx
instance (w : World) : Inhabited (Ups w) := ⟨⟨w, Below.refl _ _⟩⟩
theorem wp_region_up {P : Program} {id : Nat} {Q : Exit → Act → World → Prop} {a : Act} {w : World} {l : List Oper} (hm : P.follows .mixedOrders = true) (hB : Region.lexB .any l.toArray = true)
    (h : wpQuiet P l.toArray (fun w' => ∃ p : Ups w, w' = p.nx) (fun a' => ∀ w', (∃ p : Ups w, w' = p.nx) → Q .normal a' w') l a) : (Code.region id l.toArray true).wp P Q a w :=
  wp_region_quiet (C := fun w' => ∃ p : Ups w, w' = p.nx) hm hB ⟨⟨{ w with drawn := w.drawn + 1 }, ⟨rfl, rfl, rfl, Nat.le_refl _, fun _ _ => rfl⟩⟩, rfl⟩ (by simpa using h)
theorem Ups.cell {w : World} {a : Addr} {v : Value} (h : w.cell? a = some v) (p : Ups w) : p.nx.cell? a = some v := cell_later p.ok h
theorem ups_call {P : Program} {f : FuncId} {args : Array Value} {w : World} {p : Ups w} {v : Value} (h : Calls P f args p.nx fun e w' => e = .returned v ∧ Below p.nx.heap.size p.nx w') :
    Calls P f args p.nx fun e w'' => e = .returned v ∧ ∃ q : Ups w, w'' = q.nx :=
  h.mono fun _ w' ⟨he, hb⟩ => ⟨he, ⟨w', bt p.ok hb⟩, rfl⟩
theorem ups_dn {P : Program} {f : FuncId} {args : Array Value} {w : World} {p : Ups w} {v : Value} (h : Calls P f args p.nx fun e w' => e = .returned v ∧ Dn p.nx w') :
    Calls P f args p.nx fun e w'' => e = .returned v ∧ ∃ q : Ups w, w'' = q.nx :=
  h.mono fun _ w' ⟨he, hb⟩ => ⟨he, ⟨w', p.ok.trans (hb.below _)⟩, rfl⟩
theorem ups_eq {P : Program} {f : FuncId} {args : Array Value} {w : World} {p : Ups w} {v : Value} (h : Calls P f args p.nx fun e w' => e = .returned v ∧ p.nx = w') :
    Calls P f args p.nx fun e w'' => e = .returned v ∧ ∃ q : Ups w, w'' = q.nx :=
  h.mono fun _ w' ⟨he, hb⟩ => ⟨he, p, hb.symm⟩
end Go.Proofs.Ytfmbbpfklhkljaa
