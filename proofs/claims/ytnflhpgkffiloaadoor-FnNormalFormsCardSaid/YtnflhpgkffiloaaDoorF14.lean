/- Contract of the program's writing of one symbol on one tape.
Contract of the program's run of a machine with several tapes, for whatever visitor.
Contract of the program's run of a machine with several tapes, from a configuration that is valid. -/
import Derived.Test.YtnflhpgkffiloaaDoorF12
import Derived.Test.YtnflhpgkffiloaaDoorF13
import Derived.Test.YtnflhpgkffiloaaDoorF05
import Derived.Deep.CutBlock
import Derived.Deep.DeepCutAuto
import Derived.Test.YtnflhpgkffiloaaDoorF06
import Derived.Test.YtnflhpgkffiloaaDoorF11
import Derived.Maps.AppendAt
section
set_option linter.unusedVariables false
set_option linter.unusedSimpArgs false
namespace Go.Proofs.YtnflhpgkffiloaaDoor
open Go Go.RowKit Go.Proofs Go.Maps
set_option maxHeartbeats 400000
theorem Side.flat {base : Nat} {w : World} {v : Value} {xs : List Int} (h : Side base w v xs) : Flat v := by
  rcases h with ⟨_, rfl | ⟨b, off, c, rfl, _⟩⟩ | ⟨g, off, c, cs, rfl, _⟩
  · exact .inl rfl
  · exact .inr ⟨_, _, _, _, rfl⟩
  · exact .inr ⟨_, _, _, _, rfl⟩
theorem Side.form {base : Nat} {w : World} {v : Value} {xs : List Int} (h : Side base w v xs) : ∃ A c, v = .slice A xs.length c ∧ xs.length ≤ c ∧ c ≤ 9223372036854775807 := h.ints.form
/-- A side that is not empty lies in its own block. -/
theorem Side.at {base : Nat} {w : World} {v : Value} {xs : List Int} (h : Side base w v xs) (h1 : 1 ≤ xs.length) : ∃ g off c cs, v = .slice (some ⟨g, off, none⟩) xs.length c ∧ xs.length ≤ c ∧ c ≤ 9223372036854775807 ∧ base ≤ g ∧ Blk w g 2 cs ∧ ∀ j, (h : j < xs.length) → cs[off + j]? = some (.int .i64 xs[j]) := by
  rcases h with ⟨rfl, _⟩ | h
  · simp at h1
  · exact h
theorem Side.nil {base : Nat} {w : World} {v : Value} {xs : List Int} (h : Side base w v xs) (h0 : xs.length = 0) : (v = .slice none 0 0 ∨ ∃ b off c, v = .slice (some ⟨b, off, none⟩) 0 c ∧ c ≤ 9223372036854775807) := by
  rcases h with ⟨_, h⟩ | ⟨g, off, c, cs, rfl, _, h2, _⟩
  · exact h
  · rw [h0]
    exact .inr ⟨_, _, _, rfl, h2⟩
theorem Side.take {base : Nat} {w : World} {A : Option Addr} {n c : Nat} {xs : List Int} (h : Side base w (.slice A n c) xs) (k : Nat) (hk : k ≤ xs.length) : Side base w (.slice A k c) (xs.take k) := by
  have hl : (xs.take k).length = k := by simp; omega
  rcases h with ⟨rfl, h⟩ | ⟨g, off, c', cs, e, h1, h2, hb, hg, hc⟩
  · simp at hk
    subst hk
    refine .inl ⟨rfl, ?_⟩
    rcases h with e | ⟨b, off, c', e, h⟩
    · injection e with e1 e2 e3
      subst e1 e3
      exact .inl rfl
    · injection e with e1 e2 e3
      subst e1 e3
      exact .inr ⟨_, _, _, rfl, h⟩
  · injection e with e1 e2 e3
    subst e1 e3
    refine .inr ⟨g, off, c, cs, by rw [hl], by omega, h2, hb, hg, fun j hj => ?_⟩
    rw [hl] at hj
    rw [hc j (by omega)]
    simp
section
variable {base b o : Nat} {w0 w w' : World} {cs0 cs : Array Value} {lv0 rv0 lv rv u : Value} {t : TapeD}
end
end Go.Proofs.YtnflhpgkffiloaaDoor
end
section
set_option linter.unusedVariables false
set_option linter.unusedSimpArgs false
namespace Go.Proofs.YtnflhpgkffiloaaDoor
open Go Go.RowKit Go.Proofs Go.Maps
set_option maxHeartbeats 400000
/-- Numbers of a configuration that are small enough for a table's key, on as many tapes as the machine has. -/
structure GoodM (m : MultiD) (c : MConfD) : Prop where
  q : smallZ c.q
  n : (c.tapes.length : Int) = m.tp
  sym : ∀ t ∈ c.tapes, (∀ z ∈ t.l, smallZ z) ∧ ∀ z ∈ t.r, smallZ z
theorem smallZ_zero : smallZ 0 := by unfold smallZ; omega
theorem getD_small {xs : List Int} (h : ∀ z ∈ xs, smallZ z) (i : Nat) : smallZ (xs.getD i 0) := by
  by_cases hi : i < xs.length
  · rw [List.getD_eq_getElem?_getD, List.getElem?_eq_getElem hi]
    exact h _ (List.getElem_mem hi)
  · rw [List.getD_eq_getElem?_getD, List.getElem?_eq_none (by omega)]
    exact smallZ_zero
theorem trim_small {xs : List Int} (h : ∀ z ∈ xs, smallZ z) : ∀ z ∈ trim xs, smallZ z := fun z hz => h z (List.mem_of_mem_take hz)
theorem drop_small {xs : List Int} (h : ∀ z ∈ xs, smallZ z) (k : Nat) : ∀ z ∈ xs.drop k, smallZ z := fun z hz => h z (List.mem_of_mem_drop hz)
theorem cons_small {x : Int} {xs : List Int} (hx : smallZ x) (h : ∀ z ∈ xs, smallZ z) : ∀ z ∈ x :: xs, smallZ z := fun z hz => by
  rcases List.mem_cons.1 hz with e | e
  · rw [e]; exact hx
  · exact h z e
theorem writeT_small {t : TapeD} {s mv : Int} (h : (∀ z ∈ t.l, smallZ z) ∧ ∀ z ∈ t.r, smallZ z) (hs : smallZ s) : (∀ z ∈ (writeT t s mv).l, smallZ z) ∧ ∀ z ∈ (writeT t s mv).r, smallZ z := by
  obtain ⟨hl, hr⟩ := h
  have hw : ∀ z ∈ writeR t s, smallZ z := cons_small hs (drop_small hr 1)
  unfold writeT
  split
  · exact ⟨trim_small (cons_small hs hl), trim_small (drop_small hr 1)⟩
  · split
    · exact ⟨trim_small (drop_small hl 1), trim_small (cons_small (getD_small hl 0) hw)⟩
    · exact ⟨trim_small hl, trim_small hw⟩
theorem GoodM.apply {m : MultiD} {c : MConfD} {r : MRuleD} (h : GoodM m c) (hr : mruleOk m r = true) (hm : multiOk m = true) : GoodM m (applyM c r) := by
  obtain ⟨_, ⟨s1, s2⟩, ⟨q1, q2⟩, _, _⟩ := multi_all hm
  obtain ⟨_, h2, _, _, _, _, h7, _⟩ := mrule_all hr
  refine ⟨by show smallZ r.nx; unfold smallZ; omega, by show ((writeAll c.tapes r.wr r.mv).length : Int) = m.tp; rw [writeAll_length]; exact h.n, fun t ht => ?_⟩
  obtain ⟨k, hk, rfl⟩ := List.getElem_of_mem ht
  have hk' : k < c.tapes.length := by rw [← writeAll_length c.tapes r.wr r.mv]; exact hk
  have e : (applyM c r).tapes[k] = writeT c.tapes[k] (r.wr.getD k 0) (r.mv.getD k 0) := writeAll_get c.tapes r.wr r.mv k hk'
  rw [e]
  exact writeT_small (h.sym _ (List.getElem_mem hk')) (getD_small (fun z hz => by have := h7 z hz; unfold smallZ; omega) k)
end Go.Proofs.YtnflhpgkffiloaaDoor
end
section
set_option linter.unusedVariables false
set_option linter.unusedSimpArgs false
namespace Go.Proofs.YtnflhpgkffiloaaDoor
open Go Go.RowKit Go.Proofs Go.Maps
set_option maxHeartbeats 400000
/-- Tapes in memory from an address on, whose sides may be copied. -/
def TapF (w : World) (b off : Nat) (ts : List TapeD) : Prop :=
  ∀ i, (h : i < ts.length) → ∃ vl vr, w.cell? ⟨b, off + i * 2, none⟩ = some vl ∧ w.cell? ⟨b, off + i * 2 + 1, none⟩ = some vr ∧ Ints w vl ts[i].l ∧ Ints w vr ts[i].r ∧ Flat vl ∧ Flat vr ∧ ts[i].l.length ≤ 1000 ∧ ts[i].r.length ≤ 1000
theorem TapF.ext {w w' : World} {b off : Nat} {ts : List TapeD} (h : TapF w b off ts) (he : Ext w w') : TapF w' b off ts := fun i hi => by
  obtain ⟨vl, vr, c0, c1, i1, i2, r⟩ := h i hi
  exact ⟨vl, vr, he.cell c0, he.cell c1, i1.ext he, i2.ext he, r⟩
theorem TapF.tapes {w : World} {b off cap : Nat} {ts : List TapeD} (h : TapF w b off ts) (h1 : ts.length ≤ cap) (h2 : cap ≤ 9223372036854775807) : Tapes w (.slice (some ⟨b, off, none⟩) ts.length cap) ts :=
  ⟨_, cap, rfl, h1, h2, fun _ => ⟨b, off, rfl, fun i hi => by
    obtain ⟨vl, vr, c0, c1, i1, i2, _⟩ := h i hi
    exact ⟨vl, vr, c0, c1, i1, i2⟩⟩⟩
end Go.Proofs.YtnflhpgkffiloaaDoor
end
