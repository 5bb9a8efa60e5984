/- Contracts of the program's judgement of tapes.
A row whose block is as it was. No condition.
Contract of the program's copy of a configuration with several tapes. -/
import Derived.Test.YtfghojbbofobeaaGreatQ18
import Derived.Test.YtfghojbbofobeaaGreatQ05
import Derived.Test.YtfghojbbofobeaaGreatQ07
import Derived.Maps.AppendAt
section
set_option linter.unusedVariables false
set_option linter.unusedSimpArgs false
namespace Go.Proofs.YtfghojbbofobeaaGreat
open Go Go.RowKit Go.Proofs Go.Maps
set_option maxHeartbeats 400000
end Go.Proofs.YtfghojbbofobeaaGreat
end
section
namespace Go.Proofs.YtfghojbbofobeaaGreat
open Go Go.RowKit Go.Proofs
theorem own_same {w w' : World} {base : Nat} {e : TypeId} {size n : Nat} {v : Value} {xs : List Value} (h : w.ownsRow base e size v n xs) (hs : ∀ g, v.ownBlock = some g → w'.heap[g]? = w.heap[g]?) : w'.ownsRow base e size v n xs := by
  obtain ⟨h1, h2⟩ := h
  refine ⟨h1, ?_⟩
  rcases h2 with h2 | ⟨g, cap, cur, rfl, hb, hh, r⟩
  · exact .inl h2
  · exact .inr ⟨g, cap, cur, rfl, hb, (hs g rfl).trans hh, r⟩
end Go.Proofs.YtfghojbbofobeaaGreat
end
section
set_option linter.unusedVariables false
set_option linter.unusedSimpArgs false
namespace Go.Proofs.YtfghojbbofobeaaGreat
open Go Go.RowKit Go.Proofs Go.Maps
set_option maxHeartbeats 400000
/-- Copies of the first k tapes, in rows of their own that are apart. -/
structure CpM (w : World) (ts : List TapeD) (k : Nat) (v : Value) (cl : List Value) (wr : World) : Prop where
  own : wr.ownsRow w.heap.size 106 2 v k cl
  len : cl.length = k * 2
  side : ∀ i, (h : i < ts.length) → i < k → ∃ lv rv, cl[i * 2]? = some lv ∧ cl[i * 2 + 1]? = some rv ∧ OwnInts w.heap.size wr lv ts[i].l ∧ OwnInts w.heap.size wr rv ts[i].r
  ap : ∀ (i j : Nat) (u v : Value) (g : Nat), i ≠ j → cl[i]? = some u → cl[j]? = some v → u.ownBlock = some g → v.ownBlock ≠ some g
section
variable {w wr w' : World} {ts : List TapeD} {k : Nat} {v v' : Value} {cl : List Value}
theorem CpM.same (h : CpM w ts k v cl wr) (hs : ∀ g, g < wr.heap.size → (v.ownBlock = some g ∨ ∃ cs, Blk wr g 2 cs) → w'.heap[g]? = wr.heap[g]?) : CpM w ts k v cl w' := by
  have hi : ∀ {u : Value} {zs : List Int}, OwnInts w.heap.size wr u zs → OwnInts w.heap.size w' u zs := fun {u zs} o => own_same o (fun g hg => hs g (o.lt g hg).2 (.inr (by
    rcases o.2 with ⟨rfl, _⟩ | ⟨g', cap, cur, rfl, _, hh, _⟩
    · simp [Value.ownBlock] at hg
    · simp [Value.ownBlock] at hg
      subst hg
      exact ⟨_, hh⟩)))
  refine ⟨own_same h.own (fun g hg => hs g (h.own.lt g hg).2 (.inl hg)), h.len, fun i hi1 hi2 => ?_, h.ap⟩
  obtain ⟨lv, rv, e1, e2, o1, o2⟩ := h.side i hi1 hi2
  exact ⟨lv, rv, e1, e2, hi o1, hi o2⟩
theorem CpM.ext (h : CpM w ts k v cl wr) (he : Ext wr w') : CpM w ts k v cl w' := h.same fun g hg _ => Below.block he g hg
theorem CpM.set (h : CpM w ts k v cl wr) {g : Nat} {cs : Array Value} (hb : Blk wr g 30 cs) (i : Nat) (u : Value) : CpM w ts k v cl (wr.setCell ⟨g, i, none⟩ u) :=
  h.same fun q hq hr => Below.heap_setCell wr _ u q (fun e => by
    have e : q = g := e
    subst e
    rcases hr with e | ⟨cs', e⟩
    · exact blk_ne_row hb h.own (by decide) e.symm
    · exact blk_ne e hb (by decide) rfl)
theorem CpM.lt (h : CpM w ts k v cl wr) (hk : k ≤ ts.length) {j : Nat} {u : Value} {g : Nat} (hj : cl[j]? = some u) (hg : u.ownBlock = some g) : g < wr.heap.size := by
  have hl := h.len
  have hj2 : j < cl.length := (List.getElem?_eq_some_iff.1 hj).1
  obtain ⟨lv, rv, e1, e2, o1, o2⟩ := h.side (j / 2) (by omega) (by omega)
  by_cases hp : j = j / 2 * 2
  · rw [← hp, hj] at e1
    injection e1 with e1
    subst e1
    exact (o1.lt g hg).2
  · have hp2 : j = j / 2 * 2 + 1 := by omega
    rw [← hp2, hj] at e2
    injection e2 with e2
    subst e2
    exact (o2.lt g hg).2
theorem CpM.push (h : CpM w ts k v cl wr) {lv rv : Value} (hk : k < ts.length) (hg : wr.grownBy w' v.ownBlock) (ho : w'.ownsRow w.heap.size 106 2 v' (k + 1) (cl ++ [lv, rv])) (hl : OwnInts w.heap.size wr lv ts[k].l) (hr : OwnInts w.heap.size wr rv ts[k].r)
    (hap : ∀ g, lv.ownBlock = some g → rv.ownBlock ≠ some g) (hfr : ∀ (j : Nat) (u : Value) (g : Nat), cl[j]? = some u → u.ownBlock = some g → lv.ownBlock ≠ some g ∧ rv.ownBlock ≠ some g) : CpM w ts (k + 1) v' (cl ++ [lv, rv]) w' := by
  have hi : ∀ {u : Value} {zs : List Int}, OwnInts w.heap.size wr u zs → OwnInts w.heap.size w' u zs := fun {u zs} o => own_same o (fun g hgu => hg.block g (o.lt g hgu).2 (fun e => by
    rcases own_ne o h.own (by decide) with e' | e'
    · rw [e'] at hgu; cases hgu
    · exact e' (hgu.trans e)))
  have hlen := h.len
  have key : ∀ (j : Nat) (u : Value), (cl ++ [lv, rv])[j]? = some u → (j < k * 2 ∧ cl[j]? = some u) ∨ (j = k * 2 ∧ u = lv) ∨ (j = k * 2 + 1 ∧ u = rv) := by
    intro j u hj
    by_cases h1 : j < cl.length
    · rw [List.getElem?_append_left h1] at hj
      exact .inl ⟨by omega, hj⟩
    · rw [List.getElem?_append_right (by omega)] at hj
      obtain ⟨d, hd⟩ : ∃ d, j - cl.length = d := ⟨_, rfl⟩
      rw [hd] at hj
      match d, hd with
      | 0, hd => simp at hj; exact .inr (.inl ⟨by omega, hj.symm⟩)
      | 1, hd => simp at hj; exact .inr (.inr ⟨by omega, hj.symm⟩)
      | d + 2, hd => simp at hj
  refine ⟨ho, by simp; omega, fun i hi1 hi2 => ?_, fun i j u u' g hij hu hv hgu hgv => ?_⟩
  · by_cases hik : i < k
    · obtain ⟨l1, r1, e1, e2, o1, o2⟩ := h.side i hi1 hik
      exact ⟨l1, r1, by rw [List.getElem?_append_left (by omega)]; exact e1, by rw [List.getElem?_append_left (by omega)]; exact e2, hi o1, hi o2⟩
    · obtain rfl : i = k := by omega
      exact ⟨lv, rv, by rw [List.getElem?_append_right (by omega)]; simp [hlen], by rw [List.getElem?_append_right (by omega)]; simp [hlen], hi hl, hi hr⟩
  · rcases key i u hu with ⟨a1, a2⟩ | ⟨a1, rfl⟩ | ⟨a1, rfl⟩ <;> rcases key j u' hv with ⟨b1, b2⟩ | ⟨b1, rfl⟩ | ⟨b1, rfl⟩
    · exact h.ap i j u u' g hij a2 b2 hgu hgv
    · exact (hfr i u g a2 hgu).1 hgv
    · exact (hfr i u g a2 hgu).2 hgv
    · exact (hfr j u' g b2 hgv).1 hgu
    · omega
    · exact hap g hgu hgv
    · exact (hfr j u' g b2 hgv).2 hgu
    · exact hap g hgv hgu
    · omega
end
theorem tapeInfo : (Tryz.prog.info? 106).map (fun i => (i.zero, i.size, i.bytes)) = some (some (.agg #[.slice none 0 0, .slice none 0 0]), 2, 48) := by kernel_rfl
end Go.Proofs.YtfghojbbofobeaaGreat
end
