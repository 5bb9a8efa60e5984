/- A made map to numbers, as a function on what its keys stand for: what a look-up answers and what a store leaves. No condition.
The program's table of what the rules of a machine with several tapes read.
Contract of the program's reading of a configuration with several tapes. -/
import Derived.Test.YtnflhpgkffiloaaDoorF01
import Derived.Maps.Own
import Derived.Maps.OwnSet
import Derived.Maps.Keyed
import Derived.Maps.Views
import Derived.DeepKeys4
import Derived.Test.YtnflhpgkffiloaaDoorF11
import Derived.Test.YtnflhpgkffiloaaDoorF03
import Derived.Test.YtnflhpgkffiloaaDoorF04
import Derived.Test.YtnflhpgkffiloaaDoorF05
import Derived.Laws.IdiomCopy
import Derived.Laws.CopyRow
import Derived.Lib.SlBuf
section
namespace Go.Proofs.YtnflhpgkffiloaaDoor
open Go Go.RowKit Go.Proofs Go.Maps
section
variable {P : Program} {t k e : TypeId} {α : Type} {enc : α → Value} {w w' : World} {b n : Nat} {T T' : α → Option Int}
/-- The map in block b has T a at the key of a, in at most n entries. -/
def Tbl (P : Program) (k e : TypeId) (enc : α → Value) (w : World) (b n : Nat) (T : α → Option Int) : Prop :=
  ∃ D : DataW Unit, w.ownsMap P k (plainElem P e) b n D ∧ ∀ a l, keyOf P k (enc a) = some l → Maps.has D l = (T a).isSome ∧ D.atKey l (.lit (.int .i64 0)) = .lit (.int .i64 ((T a).getD 0))
theorem Tbl.made (P : Program) (k e : TypeId) (enc : α → Value) (w : World) : Tbl P k e enc (w.alloc (.map #[] 0)) w.heap.size 0 (fun _ => none) :=
  ⟨_, World.ownsMap_made _ _ _ _, fun _ _ _ => ⟨rfl, rfl⟩⟩
theorem Tbl.kept {row : Option Nat} (h : Tbl P k e enc w b n T) (hg : w.grownBy w' row) (hne : some b ≠ row) : Tbl P k e enc w' b n T := by
  obtain ⟨D, h1, h2⟩ := h
  exact ⟨D, h1.kept hg hne, h2⟩
theorem Tbl.ext (h : Tbl P k e enc w b n T) (he : Ext w w') : Tbl P k e enc w' b n T :=
  h.kept (row := none) ⟨he.os, he.tape, he.output, he.size, fun k hk _ => Below.block he k hk⟩ (by simp)
theorem Tbl.setCell (h : Tbl P k e enc w b n T) {a : Addr} (ha : b ≠ a.block) (u : Value) : Tbl P k e enc (w.setCell a u) b n T := by
  obtain ⟨D, h1, h2⟩ := h
  exact ⟨D, h1.setCell ha u, h2⟩
theorem Tbl.mono {n' : Nat} (h : Tbl P k e enc w b n T) (hn : n ≤ n') : Tbl P k e enc w b n' T := by
  obtain ⟨D, h1, h2⟩ := h
  exact ⟨D, h1.mono hn, h2⟩
theorem Tbl.lt (h : Tbl P k e enc w b n T) : b < w.heap.size := by
  obtain ⟨D, h1, _⟩ := h
  exact h1.lt
end
end Go.Proofs.YtnflhpgkffiloaaDoor
end
section
set_option linter.unusedVariables false
set_option linter.unusedSimpArgs false
namespace Go.Proofs.YtnflhpgkffiloaaDoor
open Go Go.RowKit Go.Proofs Go.Maps
set_option maxHeartbeats 400000
def smallZ (z : Int) : Prop := -1000000 ≤ z ∧ z ≤ 1000000
end Go.Proofs.YtnflhpgkffiloaaDoor
end
section
set_option linter.unusedVariables false
set_option linter.unusedSimpArgs false
namespace Go.Proofs.YtnflhpgkffiloaaDoor
open Go Go.RowKit Go.Proofs Go.Maps
set_option maxHeartbeats 400000
/-- Tapes in memory. -/
def Tapes (w : World) (v : Value) (ts : List TapeD) : Prop :=
  ∃ A c, v = .slice A ts.length c ∧ ts.length ≤ c ∧ c ≤ 9223372036854775807 ∧ (0 < ts.length → ∃ b off, A = some ⟨b, off, none⟩ ∧ ∀ i, (h : i < ts.length) → ∃ vl vr,
    w.cell? ⟨b, off + i * 2, none⟩ = some vl ∧ w.cell? ⟨b, off + i * 2 + 1, none⟩ = some vr ∧ Ints w vl ts[i].l ∧ Ints w vr ts[i].r)
theorem Tapes.ext {w w' : World} {v : Value} {ts : List TapeD} (h : Tapes w v ts) (he : Ext w w') : Tapes w' v ts := by
  obtain ⟨A, c, rfl, h1, h2, h3⟩ := h
  refine ⟨A, c, rfl, h1, h2, fun hn => ?_⟩
  obtain ⟨b, off, e, hc⟩ := h3 hn
  refine ⟨b, off, e, fun i hi => ?_⟩
  obtain ⟨vl, vr, c0, c1, i1, i2⟩ := hc i hi
  exact ⟨vl, vr, he.cell c0, he.cell c1, i1.ext he, i2.ext he⟩
theorem Tapes.form {w : World} {v : Value} {ts : List TapeD} (h : Tapes w v ts) : ∃ A c, v = .slice A ts.length c ∧ ts.length ≤ c ∧ c ≤ 9223372036854775807 := by
  obtain ⟨A, c, e, h1, h2, _⟩ := h
  exact ⟨A, c, e, h1, h2⟩
theorem Tapes.at {w : World} {A : Option Addr} {c : Nat} {ts : List TapeD} (h : Tapes w (.slice A ts.length c) ts) {i : Nat} (hi : i < ts.length) : ∃ b off vl vr, A = some ⟨b, off, none⟩ ∧
    w.cell? ⟨b, off + i * 2, none⟩ = some vl ∧ w.cell? ⟨b, off + i * 2 + 1, none⟩ = some vr ∧ Ints w vl ts[i].l ∧ Ints w vr ts[i].r := by
  obtain ⟨A', c', e, _, _, h3⟩ := h
  injection e with e1 _ _
  subst e1
  obtain ⟨b, off, e, hc⟩ := h3 (by omega)
  obtain ⟨vl, vr, hh⟩ := hc i hi
  exact ⟨b, off, vl, vr, e, hh⟩
end Go.Proofs.YtnflhpgkffiloaaDoor
end
