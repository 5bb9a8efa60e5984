/- What a store into one block leaves of other blocks and rows. No condition.
Contracts of the reference's test of a configuration, and of its maker of the machine on one half of the tape. The machine is valid.
Contracts of the program's actions of the machine on one half of the tape. The place and the symbol are the machine's. -/
import Derived.Test.YtkbpchdncljlbaaGreatDoorV01
import Derived.Test.YtkbpchdncljlbaaGreatDoorV11
import Derived.Test.YtkbpchdncljlbaaGreatDoorV04
import Derived.Test.YtkbpchdncljlbaaGreatDoorV14
section
namespace Go.Proofs.YtkbpchdncljlbaaGreatDoor
open Go Go.RowKit Go.Proofs
theorem Blk.kept {w w' : World} {g : Nat} {t : TypeId} {cs : Array Value} {row : Option Nat} (h : Blk w g t cs) (hg : w.grownBy w' row) (hne : some g ≠ row) : Blk w' g t cs := (hg.block g h.lt hne).trans h
theorem blk_ne_row {w : World} {g : Nat} {t : TypeId} {cs : Array Value} (hb : Blk w g t cs) {base : Nat} {e : TypeId} {size : Nat} {v : Value} {n : Nat} {xs : List Value} (ho : w.ownsRow base e size v n xs) (hne : t ≠ e) : some g ≠ v.ownBlock := by
  rcases ho.2 with ⟨rfl, _⟩ | ⟨g', cap, cur, rfl, _, hh, _⟩
  · simp [Value.ownBlock]
  · intro he
    have : g = g' := by simpa [Value.ownBlock] using he
    subst this
    unfold Blk at hb
    rw [hb] at hh
    injection hh with hh
    injection hh with _ ht
    exact hne ht
theorem own_kept {w w' : World} {base : Nat} {e : TypeId} {size : Nat} {v : Value} {n : Nat} {xs : List Value} {g : Nat} (h : w.ownsRow base e size v n xs) (hg : w.grownBy w' (some g)) (hne : some g ≠ v.ownBlock) : w'.ownsRow base e size v n xs := h.kept hg (.inr (Ne.symm hne))
theorem grownBy_setCell (w : World) (p : Addr) (u : Value) : w.grownBy (w.setCell p u) (some p.block) :=
  ⟨rfl, rfl, rfl, by simp [World.setCell], fun k _ hk => Below.heap_setCell w p u k (fun e => hk (by rw [e]))⟩
theorem blk_type {w : World} {g : Nat} {t t' : TypeId} {cs cs' : Array Value} (h : Blk w g t cs) (h' : Blk w g t' cs') : t = t' := by
  unfold Blk at h h'
  rw [h] at h'
  injection h' with h'
  injection h' with _ e
theorem blk_ne {w : World} {g g' : Nat} {t t' : TypeId} {cs cs' : Array Value} (h : Blk w g t cs) (h' : Blk w g' t' cs') (ht : t ≠ t') : g ≠ g' := by
  rintro rfl
  exact ht (blk_type h h')
end Go.Proofs.YtkbpchdncljlbaaGreatDoor
end
section
set_option linter.unusedSimpArgs false
set_option linter.unusedVariables false
namespace Go.Proofs.YtkbpchdncljlbaaGreatDoor
open Go Go.RowKit Go.Proofs
set_option maxHeartbeats 400000
theorem sideOk_nolast {zs : List Int} {sy : Int} (h : (zs.all fun z => inB z 0 (sy - 1)) = false) : sideOk zs sy 200 = false := by simp only [sideOk, h]; simp
/-- A configuration behind a pointer. -/
def ConfP (w : World) (b : Nat) (c : ConfD) : Prop := ∃ lv rv, w.cell? ⟨b, 0, none⟩ = some (.int .i64 c.q) ∧ w.cell? ⟨b, 1, none⟩ = some lv ∧ w.cell? ⟨b, 2, none⟩ = some rv ∧ Ints w lv c.l ∧ Ints w rv c.r
theorem ConfP.ext {w w' : World} {b : Nat} {c : ConfD} (h : ConfP w b c) (he : Ext w w') : ConfP w' b c := by
  obtain ⟨lv, rv, h1, h2, h3, h4, h5⟩ := h
  exact ⟨lv, rv, he.cell h1, he.cell h2, he.cell h3, h4.ext he, h5.ext he⟩
end Go.Proofs.YtkbpchdncljlbaaGreatDoor
end
section
set_option linter.unusedSimpArgs false
set_option linter.unusedVariables false
namespace Go.Proofs.YtkbpchdncljlbaaGreatDoor
open Go Go.RowKit Go.Proofs
set_option maxHeartbeats 400000
end Go.Proofs.YtkbpchdncljlbaaGreatDoor
end
