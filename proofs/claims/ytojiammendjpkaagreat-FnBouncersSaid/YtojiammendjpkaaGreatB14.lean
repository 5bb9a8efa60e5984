/- Contract of the program's run of a machine with several tapes, from a configuration that is valid.
A list without zeros at its end, in the row of the whole one. No condition.
Plain words: a run of a machine with several tapes stays among valid configurations; the texts of a run. No program runs here. -/
import Derived.Test.YtojiammendjpkaaGreatB13
import Derived.Test.YtojiammendjpkaaGreatB11
import Derived.Test.YtojiammendjpkaaGreatB05
import Derived.Maps.AppendAt
import Derived.Test.YtojiammendjpkaaGreatB09
section
set_option linter.unusedVariables false
set_option linter.unusedSimpArgs false
namespace Go.Proofs.YtojiammendjpkaaGreat
open Go Go.RowKit Go.Proofs Go.Maps
set_option maxHeartbeats 400000
/-- Tapes in memory from an address on, whose sides may be copied. -/
def TapF (w : World) (b off : Nat) (ts : List TapeD) : Prop :=
  ∀ i, (h : i < ts.length) → ∃ vl vr, w.cell? ⟨b, off + i * 2, none⟩ = some vl ∧ w.cell? ⟨b, off + i * 2 + 1, none⟩ = some vr ∧ Ints w vl ts[i].l ∧ Ints w vr ts[i].r ∧ Flat vl ∧ Flat vr ∧ ts[i].l.length ≤ 1000 ∧ ts[i].r.length ≤ 1000
theorem TapF.ext {w w' : World} {b off : Nat} {ts : List TapeD} (h : TapF w b off ts) (he : Ext w w') : TapF w' b off ts := fun i hi => by
  obtain ⟨vl, vr, c0, c1, i1, i2, r⟩ := h i hi
  exact ⟨vl, vr, he.cell c0, he.cell c1, i1.ext he, i2.ext he, r⟩
theorem TapF.tapes {w : World} {b off cap : Nat} {ts : List TapeD} (h : TapF w b off ts) (h1 : ts.length ≤ cap) (h2 : cap ≤ 9223372036854775807) : Tapes w (.slice (some ⟨b, off, none⟩) ts.length cap) ts :=
  ⟨_, cap, rfl, h1, h2, fun _ => ⟨b, off, rfl, fun i hi => by
    obtain ⟨vl, vr, c0, c1, i1, i2, _⟩ := h i hi
    exact ⟨vl, vr, c0, c1, i1, i2⟩⟩⟩
end Go.Proofs.YtojiammendjpkaaGreat
end
section
set_option linter.unusedVariables false
namespace Go.Proofs.YtojiammendjpkaaGreat
open Go Go.RowKit Go.Proofs
theorem own_trim {base : Nat} {w : World} {A : Option Addr} {c : Nat} {x : List Int} (h : OwnInts base w (.slice A x.length c) x) : OwnInts base w (.slice A (trimN x x.length) c) (trim x) := by
  have hl := trimN_le x x.length
  by_cases hA : A = none
  · subst hA
    rcases h.2 with ⟨e, h0⟩ | ⟨g, cap, cur, e, _⟩
    · injection e with e1 e2 e3
      have hx : x = [] := List.length_eq_zero_iff.1 (by simpa using h0)
      subst hx
      subst e3
      exact h
    · injection e with e1
      cases e1
  · exact h.take _ hl hA
end Go.Proofs.YtojiammendjpkaaGreat
end
section
set_option linter.unusedVariables false
set_option linter.unusedSimpArgs false
namespace Go.Proofs.YtojiammendjpkaaGreat
open Go Go.RowKit Go.Proofs
theorem getD_in {xs : List Int} {hi : Int} (h : ∀ z ∈ xs, 0 ≤ z ∧ z ≤ hi) (h0 : 0 ≤ hi) (k : Nat) : 0 ≤ xs.getD k 0 ∧ xs.getD k 0 ≤ hi := by
  by_cases hk : k < xs.length
  · rw [List.getD_eq_getElem?_getD, List.getElem?_eq_getElem hk]
    exact h _ (List.getElem_mem hk)
  · rw [List.getD_eq_getElem?_getD, List.getElem?_eq_none (by omega)]
    exact ⟨Int.le_refl _, h0⟩
theorem MEnd.one {rs : List MRuleD} {c : MConfD} {N i j : Nat} (h : MEnd rs c N i) (h' : MEnd rs c N j) : i = j := by
  rcases Nat.lt_trichotomy i j with e | e | e
  · rcases h.stop with s | s
    · have := h'.le; omega
    · exact absurd s (h'.runs.no i e)
  · exact e
  · rcases h'.stop with s | s
    · have := h.le; omega
    · exact absurd s (h.runs.no j e)
end Go.Proofs.YtojiammendjpkaaGreat
end
