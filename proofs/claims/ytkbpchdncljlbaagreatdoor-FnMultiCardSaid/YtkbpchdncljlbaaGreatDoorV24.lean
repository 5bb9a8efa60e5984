/- Contracts of the program's runner of a machine: the rule it looks at, and whether it halts. The machine is valid and the configuration is one of its.
A row whose block is as it was. No condition.
Contract of the step of the program's runner of a machine. The machine is valid and the configuration is one of its, with at most 200 cells on each side. -/
import Derived.Test.YtkbpchdncljlbaaGreatDoorV23
import Derived.Test.YtkbpchdncljlbaaGreatDoorV15
section
set_option linter.unusedSimpArgs false
set_option linter.unusedVariables false
namespace Go.Proofs.YtkbpchdncljlbaaGreatDoor
open Go Go.RowKit Go.Proofs
set_option maxHeartbeats 400000
end Go.Proofs.YtkbpchdncljlbaaGreatDoor
end
section
namespace Go.Proofs.YtkbpchdncljlbaaGreatDoor
open Go Go.RowKit Go.Proofs
theorem own_same {w w' : World} {base : Nat} {e : TypeId} {size n : Nat} {v : Value} {xs : List Value} (h : w.ownsRow base e size v n xs) (hs : ∀ g, v.ownBlock = some g → w'.heap[g]? = w.heap[g]?) : w'.ownsRow base e size v n xs := by
  obtain ⟨h1, h2⟩ := h
  refine ⟨h1, ?_⟩
  rcases h2 with h2 | ⟨g, cap, cur, rfl, hb, hh, r⟩
  · exact .inl h2
  · exact .inr ⟨g, cap, cur, rfl, hb, (hs g rfl).trans hh, r⟩
end Go.Proofs.YtkbpchdncljlbaaGreatDoor
end
section
set_option linter.unusedSimpArgs false
set_option linter.unusedVariables false
namespace Go.Proofs.YtkbpchdncljlbaaGreatDoor
open Go Go.RowKit Go.Proofs
set_option maxHeartbeats 400000
/-- Only the runner's blocks, and new ones, are touched. -/
structure Moved (b : Nat) (w w' : World) (lv rv lv' rv' : Value) : Prop where
  os : w'.os = w.os
  tape : w'.tape = w.tape
  output : w'.output = w.output
  size : w.heap.size ≤ w'.heap.size
  same : ∀ k, k < w.heap.size → k ≠ b → lv.ownBlock ≠ some k → rv.ownBlock ≠ some k → w'.heap[k]? = w.heap[k]?
  newl : ∀ g, lv'.ownBlock = some g → lv.ownBlock = some g ∨ rv.ownBlock = some g ∨ w.heap.size ≤ g
  newr : ∀ g, rv'.ownBlock = some g → lv.ownBlock = some g ∨ rv.ownBlock = some g ∨ w.heap.size ≤ g
theorem Moved.ofExt {b : Nat} {w w' : World} {lv rv : Value} (h : Ext w w') : Moved b w w' lv rv lv rv :=
  ⟨Below.os h, Below.tape h, Below.output h, Ext.size h, fun k hk _ _ _ => Below.block h k hk, fun g hg => .inl hg, fun g hg => .inr (.inl hg)⟩
theorem Moved.trans {b : Nat} {w w1 w2 : World} {lv rv l1 r1 l2 r2 : Value} (h : Moved b w w1 lv rv l1 r1) (k : Moved b w1 w2 l1 r1 l2 r2) : Moved b w w2 lv rv l2 r2 := by
  have hs := h.size
  refine ⟨k.os.trans h.os, k.tape.trans h.tape, k.output.trans h.output, Nat.le_trans h.size k.size, fun i hi hb hl hr => ?_, fun g hg => ?_, fun g hg => ?_⟩
  · refine (k.same i (by omega) hb (fun e => ?_) (fun e => ?_)).trans (h.same i hi hb hl hr)
    · rcases h.newl i e with e | e | e
      · exact hl e
      · exact hr e
      · omega
    · rcases h.newr i e with e | e | e
      · exact hl e
      · exact hr e
      · omega
  · rcases k.newl g hg with e | e | e
    · exact h.newl g e
    · exact h.newr g e
    · exact .inr (.inr (by omega))
  · rcases k.newr g hg with e | e | e
    · exact h.newl g e
    · exact h.newr g e
    · exact .inr (.inr (by omega))
theorem Pushed.ext0 {w0 w w' : World} {v u : Value} (h : Pushed w w' v u) (h0 : Ext w0 w) (hv : ∀ g, v.ownBlock = some g → w0.heap.size ≤ g) : Ext w0 w' :=
  ⟨h.os.trans (Below.os h0), h.tape.trans (Below.tape h0), h.output.trans (Below.output h0), Nat.le_trans (Ext.size h0) h.size, fun k hk => (h.same k (by have := Ext.size h0; omega) (fun e => by have := hv k e; omega)).trans (Below.block h0 k hk)⟩
theorem Pushed.refl (w : World) (v u : Value) (hu : u.ownBlock = v.ownBlock) : Pushed w w v u := ⟨rfl, rfl, rfl, Nat.le_refl _, fun _ _ _ => rfl, fun g hg => .inl (by rw [← hu]; exact hg)⟩
theorem Pushed.trans {w w1 w2 : World} {v u x : Value} (h : Pushed w w1 v u) (k : Pushed w1 w2 u x) : Pushed w w2 v x := by
  have hs := h.size
  refine ⟨k.os.trans h.os, k.tape.trans h.tape, k.output.trans h.output, Nat.le_trans h.size k.size, fun i hi hv => (k.same i (by omega) (fun e => ?_)).trans (h.same i hi hv), fun g hg => ?_⟩
  · rcases h.new i e with e | e
    · exact hv e
    · omega
  · rcases k.new g hg with e | e
    · exact h.new g e
    · exact .inr (by omega)
section
variable {w0 w w' : World} {b : Nat} {m : MachD} {c : ConfD} {mv lv rv u : Value}
end
end Go.Proofs.YtkbpchdncljlbaaGreatDoor
end
