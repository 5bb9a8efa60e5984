/- Contract of the program's run of a machine with several tapes, for whatever visitor.
A row whose block is as it was. No condition.
Contract of the program's run of a machine with several tapes, from a configuration that is valid. -/
import Derived.Test.YtapjofbjedpmgaaGreatC12
import Derived.Test.YtapjofbjedpmgaaGreatC10
import Derived.Test.YtapjofbjedpmgaaGreatC11
import Derived.Test.YtapjofbjedpmgaaGreatC05
import Derived.Maps.AppendAt
section
set_option linter.unusedVariables false
set_option linter.unusedSimpArgs false
namespace Go.Proofs.YtapjofbjedpmgaaGreat
open Go Go.RowKit Go.Proofs Go.Maps
set_option maxHeartbeats 400000
/-- Numbers of a configuration that are small enough for a table's key, on as many tapes as the machine has. -/
structure GoodM (m : MultiD) (c : MConfD) : Prop where
  q : smallZ c.q
  n : (c.tapes.length : Int) = m.tp
  sym : ∀ t ∈ c.tapes, (∀ z ∈ t.l, smallZ z) ∧ ∀ z ∈ t.r, smallZ z
theorem smallZ_zero : smallZ 0 := by unfold smallZ; omega
theorem getD_small {xs : List Int} (h : ∀ z ∈ xs, smallZ z) (i : Nat) : smallZ (xs.getD i 0) := by
  by_cases hi : i < xs.length
  · rw [List.getD_eq_getElem?_getD, List.getElem?_eq_getElem hi]
    exact h _ (List.getElem_mem hi)
  · rw [List.getD_eq_getElem?_getD, List.getElem?_eq_none (by omega)]
    exact smallZ_zero
theorem trim_small {xs : List Int} (h : ∀ z ∈ xs, smallZ z) : ∀ z ∈ trim xs, smallZ z := fun z hz => h z (List.mem_of_mem_take hz)
theorem drop_small {xs : List Int} (h : ∀ z ∈ xs, smallZ z) (k : Nat) : ∀ z ∈ xs.drop k, smallZ z := fun z hz => h z (List.mem_of_mem_drop hz)
theorem cons_small {x : Int} {xs : List Int} (hx : smallZ x) (h : ∀ z ∈ xs, smallZ z) : ∀ z ∈ x :: xs, smallZ z := fun z hz => by
  rcases List.mem_cons.1 hz with e | e
  · rw [e]; exact hx
  · exact h z e
theorem writeT_small {t : TapeD} {s mv : Int} (h : (∀ z ∈ t.l, smallZ z) ∧ ∀ z ∈ t.r, smallZ z) (hs : smallZ s) : (∀ z ∈ (writeT t s mv).l, smallZ z) ∧ ∀ z ∈ (writeT t s mv).r, smallZ z := by
  obtain ⟨hl, hr⟩ := h
  have hw : ∀ z ∈ writeR t s, smallZ z := cons_small hs (drop_small hr 1)
  unfold writeT
  split
  · exact ⟨trim_small (cons_small hs hl), trim_small (drop_small hr 1)⟩
  · split
    · exact ⟨trim_small (drop_small hl 1), trim_small (cons_small (getD_small hl 0) hw)⟩
    · exact ⟨trim_small hl, trim_small hw⟩
theorem GoodM.apply {m : MultiD} {c : MConfD} {r : MRuleD} (h : GoodM m c) (hr : mruleOk m r = true) (hm : multiOk m = true) : GoodM m (applyM c r) := by
  obtain ⟨_, ⟨s1, s2⟩, ⟨q1, q2⟩, _, _⟩ := multi_all hm
  obtain ⟨_, h2, _, _, _, _, h7, _⟩ := mrule_all hr
  refine ⟨by show smallZ r.nx; unfold smallZ; omega, by show ((writeAll c.tapes r.wr r.mv).length : Int) = m.tp; rw [writeAll_length]; exact h.n, fun t ht => ?_⟩
  obtain ⟨k, hk, rfl⟩ := List.getElem_of_mem ht
  have hk' : k < c.tapes.length := by rw [← writeAll_length c.tapes r.wr r.mv]; exact hk
  have e : (applyM c r).tapes[k] = writeT c.tapes[k] (r.wr.getD k 0) (r.mv.getD k 0) := writeAll_get c.tapes r.wr r.mv k hk'
  rw [e]
  exact writeT_small (h.sym _ (List.getElem_mem hk')) (getD_small (fun z hz => by have := h7 z hz; unfold smallZ; omega) k)
end Go.Proofs.YtapjofbjedpmgaaGreat
end
section
namespace Go.Proofs.YtapjofbjedpmgaaGreat
open Go Go.RowKit Go.Proofs
theorem own_same {w w' : World} {base : Nat} {e : TypeId} {size n : Nat} {v : Value} {xs : List Value} (h : w.ownsRow base e size v n xs) (hs : ∀ g, v.ownBlock = some g → w'.heap[g]? = w.heap[g]?) : w'.ownsRow base e size v n xs := by
  obtain ⟨h1, h2⟩ := h
  refine ⟨h1, ?_⟩
  rcases h2 with h2 | ⟨g, cap, cur, rfl, hb, hh, r⟩
  · exact .inl h2
  · exact .inr ⟨g, cap, cur, rfl, hb, (hs g rfl).trans hh, r⟩
end Go.Proofs.YtapjofbjedpmgaaGreat
end
section
set_option linter.unusedVariables false
set_option linter.unusedSimpArgs false
namespace Go.Proofs.YtapjofbjedpmgaaGreat
open Go Go.RowKit Go.Proofs Go.Maps
set_option maxHeartbeats 400000
/-- Tapes in memory from an address on, whose sides may be copied. -/
def TapF (w : World) (b off : Nat) (ts : List TapeD) : Prop :=
  ∀ i, (h : i < ts.length) → ∃ vl vr, w.cell? ⟨b, off + i * 2, none⟩ = some vl ∧ w.cell? ⟨b, off + i * 2 + 1, none⟩ = some vr ∧ Ints w vl ts[i].l ∧ Ints w vr ts[i].r ∧ Flat vl ∧ Flat vr ∧ ts[i].l.length ≤ 1000 ∧ ts[i].r.length ≤ 1000
theorem TapF.ext {w w' : World} {b off : Nat} {ts : List TapeD} (h : TapF w b off ts) (he : Ext w w') : TapF w' b off ts := fun i hi => by
  obtain ⟨vl, vr, c0, c1, i1, i2, r⟩ := h i hi
  exact ⟨vl, vr, he.cell c0, he.cell c1, i1.ext he, i2.ext he, r⟩
theorem TapF.tapes {w : World} {b off cap : Nat} {ts : List TapeD} (h : TapF w b off ts) (h1 : ts.length ≤ cap) (h2 : cap ≤ 9223372036854775807) : Tapes w (.slice (some ⟨b, off, none⟩) ts.length cap) ts :=
  ⟨_, cap, rfl, h1, h2, fun _ => ⟨b, off, rfl, fun i hi => by
    obtain ⟨vl, vr, c0, c1, i1, i2, _⟩ := h i hi
    exact ⟨vl, vr, c0, c1, i1, i2⟩⟩⟩
end Go.Proofs.YtapjofbjedpmgaaGreat
end
