/- Contract of the program's step of a configuration with several tapes.
Contract of the program's run of a machine with several tapes, for whatever visitor.
A row whose block is as it was. No condition. -/
import Derived.Test.YtojiammendjpkaaGreatB12
import Derived.Test.YtojiammendjpkaaGreatB10
section
set_option linter.unusedVariables false
set_option linter.unusedSimpArgs false
namespace Go.Proofs.YtojiammendjpkaaGreat
open Go Go.RowKit Go.Proofs Go.Maps
set_option maxHeartbeats 400000
/-- The blocks K are as they were. -/
def Kp (K : Nat → Prop) (w w' : World) : Prop := ∀ k, K k → w'.heap[k]? = w.heap[k]?
section
variable {w0 w w' : World} {K : Nat → Prop} {bc gT cap : Nat} {cs cs' : Array Value} {c : MConfD}
end
end Go.Proofs.YtojiammendjpkaaGreat
end
section
set_option linter.unusedVariables false
set_option linter.unusedSimpArgs false
namespace Go.Proofs.YtojiammendjpkaaGreat
open Go Go.RowKit Go.Proofs Go.Maps
set_option maxHeartbeats 400000
/-- Numbers of a configuration that are small enough for a table's key, on as many tapes as the machine has. -/
structure GoodM (m : MultiD) (c : MConfD) : Prop where
  q : smallZ c.q
  n : (c.tapes.length : Int) = m.tp
  sym : ∀ t ∈ c.tapes, (∀ z ∈ t.l, smallZ z) ∧ ∀ z ∈ t.r, smallZ z
theorem smallZ_zero : smallZ 0 := by unfold smallZ; omega
theorem getD_small {xs : List Int} (h : ∀ z ∈ xs, smallZ z) (i : Nat) : smallZ (xs.getD i 0) := by
  by_cases hi : i < xs.length
  · rw [List.getD_eq_getElem?_getD, List.getElem?_eq_getElem hi]
    exact h _ (List.getElem_mem hi)
  · rw [List.getD_eq_getElem?_getD, List.getElem?_eq_none (by omega)]
    exact smallZ_zero
theorem trim_small {xs : List Int} (h : ∀ z ∈ xs, smallZ z) : ∀ z ∈ trim xs, smallZ z := fun z hz => h z (List.mem_of_mem_take hz)
theorem drop_small {xs : List Int} (h : ∀ z ∈ xs, smallZ z) (k : Nat) : ∀ z ∈ xs.drop k, smallZ z := fun z hz => h z (List.mem_of_mem_drop hz)
theorem cons_small {x : Int} {xs : List Int} (hx : smallZ x) (h : ∀ z ∈ xs, smallZ z) : ∀ z ∈ x :: xs, smallZ z := fun z hz => by
  rcases List.mem_cons.1 hz with e | e
  · rw [e]; exact hx
  · exact h z e
theorem writeT_small {t : TapeD} {s mv : Int} (h : (∀ z ∈ t.l, smallZ z) ∧ ∀ z ∈ t.r, smallZ z) (hs : smallZ s) : (∀ z ∈ (writeT t s mv).l, smallZ z) ∧ ∀ z ∈ (writeT t s mv).r, smallZ z := by
  obtain ⟨hl, hr⟩ := h
  have hw : ∀ z ∈ writeR t s, smallZ z := cons_small hs (drop_small hr 1)
  unfold writeT
  split
  · exact ⟨trim_small (cons_small hs hl), trim_small (drop_small hr 1)⟩
  · split
    · exact ⟨trim_small (drop_small hl 1), trim_small (cons_small (getD_small hl 0) hw)⟩
    · exact ⟨trim_small hl, trim_small hw⟩
theorem GoodM.apply {m : MultiD} {c : MConfD} {r : MRuleD} (h : GoodM m c) (hr : mruleOk m r = true) (hm : multiOk m = true) : GoodM m (applyM c r) := by
  obtain ⟨_, ⟨s1, s2⟩, ⟨q1, q2⟩, _, _⟩ := multi_all hm
  obtain ⟨_, h2, _, _, _, _, h7, _⟩ := mrule_all hr
  refine ⟨by show smallZ r.nx; unfold smallZ; omega, by show ((writeAll c.tapes r.wr r.mv).length : Int) = m.tp; rw [writeAll_length]; exact h.n, fun t ht => ?_⟩
  obtain ⟨k, hk, rfl⟩ := List.getElem_of_mem ht
  have hk' : k < c.tapes.length := by rw [← writeAll_length c.tapes r.wr r.mv]; exact hk
  have e : (applyM c r).tapes[k] = writeT c.tapes[k] (r.wr.getD k 0) (r.mv.getD k 0) := writeAll_get c.tapes r.wr r.mv k hk'
  rw [e]
  exact writeT_small (h.sym _ (List.getElem_mem hk')) (getD_small (fun z hz => by have := h7 z hz; unfold smallZ; omega) k)
theorem GoodM.cfg {m : MultiD} {c : MConfD} (h : GoodM m c) (hm : multiOk m = true) : ∀ i, GoodM m (cfgM m.rules c i)
  | 0 => h
  | i + 1 => by
    have ih := GoodM.cfg h hm i
    unfold cfgM stepM
    split
    · exact ih
    · rename_i j hj
      have hlt : j < m.rules.length := findM_lt hj
      have e : m.rules.getD j mr0 = m.rules[j] := by rw [List.getD_eq_getElem?_getD, List.getElem?_eq_getElem hlt]; rfl
      rw [e]
      exact ih.apply (multi_rule hm hlt) hm
end Go.Proofs.YtojiammendjpkaaGreat
end
section
namespace Go.Proofs.YtojiammendjpkaaGreat
open Go Go.RowKit Go.Proofs
theorem own_same {w w' : World} {base : Nat} {e : TypeId} {size n : Nat} {v : Value} {xs : List Value} (h : w.ownsRow base e size v n xs) (hs : ∀ g, v.ownBlock = some g → w'.heap[g]? = w.heap[g]?) : w'.ownsRow base e size v n xs := by
  obtain ⟨h1, h2⟩ := h
  refine ⟨h1, ?_⟩
  rcases h2 with h2 | ⟨g, cap, cur, rfl, hb, hh, r⟩
  · exact .inl h2
  · exact .inr ⟨g, cap, cur, rfl, hb, (hs g rfl).trans hh, r⟩
end Go.Proofs.YtojiammendjpkaaGreat
end
