/- Contracts of the program's copies of a tape and of a configuration with several tapes.
Contracts of the program's judgement of tapes.
A row whose block is as it was. No condition. -/
import Derived.Test.YtkbpchdncljlbaaDoorR14
import Derived.Test.YtkbpchdncljlbaaDoorR13
import Derived.Test.YtkbpchdncljlbaaDoorR06
import Derived.Test.YtkbpchdncljlbaaDoorR08
section
set_option linter.unusedVariables false
set_option linter.unusedSimpArgs false
namespace Go.Proofs.YtkbpchdncljlbaaDoor
open Go Go.RowKit Go.Proofs Go.Maps
set_option maxHeartbeats 400000
end Go.Proofs.YtkbpchdncljlbaaDoor
end
section
set_option linter.unusedVariables false
set_option linter.unusedSimpArgs false
namespace Go.Proofs.YtkbpchdncljlbaaDoor
open Go Go.RowKit Go.Proofs Go.Maps
set_option maxHeartbeats 400000
end Go.Proofs.YtkbpchdncljlbaaDoor
end
section
namespace Go.Proofs.YtkbpchdncljlbaaDoor
open Go Go.RowKit Go.Proofs
theorem own_same {w w' : World} {base : Nat} {e : TypeId} {size n : Nat} {v : Value} {xs : List Value} (h : w.ownsRow base e size v n xs) (hs : ∀ g, v.ownBlock = some g → w'.heap[g]? = w.heap[g]?) : w'.ownsRow base e size v n xs := by
  obtain ⟨h1, h2⟩ := h
  refine ⟨h1, ?_⟩
  rcases h2 with h2 | ⟨g, cap, cur, rfl, hb, hh, r⟩
  · exact .inl h2
  · exact .inr ⟨g, cap, cur, rfl, hb, (hs g rfl).trans hh, r⟩
end Go.Proofs.YtkbpchdncljlbaaDoor
end
