/- Contract: the copy of a formula tape: every list in a block of its own.
Contract: a step of a formula tape on a wall.
Contract: the reference's drawing of a formula tape. -/
import Derived.Test.YtapjofbjedpmgaaGreatC25
import Derived.Test.YtapjofbjedpmgaaGreatC24
section
set_option linter.unusedSimpArgs false
set_option linter.unusedVariables false
namespace Go.Proofs.YtapjofbjedpmgaaGreat
open Go Go.RowKit Go.Proofs
set_option maxHeartbeats 400000
/-- Lists of the call's own, no two in one block. -/
def OwnListsP (base : Nat) (w : World) (v : Value) (xss : List (List Int)) : Prop := ∃ vs, w.ownsRow base 27 1 v xss.length vs ∧ (∀ i, (h : i < xss.length) → ∃ u, vs[i]? = some u ∧ OwnInts base w u xss[i]) ∧ vs.Pairwise AptF
theorem OwnListsP.snoc {base : Nat} {w w' : World} {v v' u : Value} {xss : List (List Int)} {xs : List Int} {vs : List Value} (h1 : w.ownsRow base 27 1 v xss.length vs) (h2 : ∀ i, (h : i < xss.length) → ∃ u, vs[i]? = some u ∧ OwnInts base w u xss[i])
    (hu : OwnInts base w u xs) (ho : w'.ownsRow base 27 1 v' (xss.length + 1) (vs ++ [u])) (hg : w.grownBy w' v.ownBlock) (hp : vs.Pairwise AptF) (hf : ∀ v ∈ vs, AptF v u) : OwnListsP base w' v' (xss ++ [xs]) := by
  have hl := h1.1
  have keep : ∀ {x : Value} {zs : List Int}, OwnInts base w x zs → OwnInts base w' x zs := fun hx => World.ownsRow.kept hx hg (own_ne hx h1 (by decide))
  refine ⟨vs ++ [u], by simpa using ho, fun i hi => ?_, List.pairwise_append.2 ⟨hp, List.pairwise_singleton _ _, fun a ha b hb => by rw [List.mem_singleton.1 hb]; exact hf a ha⟩⟩
  by_cases h : i < xss.length
  · obtain ⟨x, e, hx⟩ := h2 i h
    exact ⟨x, by rw [List.getElem?_append_left (by omega), e], by rw [List.getElem_append_left h]; exact keep hx⟩
  · have hie : i = xss.length := by simp at hi; omega
    subst hie
    exact ⟨u, by rw [List.getElem?_append_right (by omega)]; simp [hl], by simpa using keep hu⟩
end Go.Proofs.YtapjofbjedpmgaaGreat
end
section
set_option linter.unusedSimpArgs false
set_option linter.unusedVariables false
namespace Go.Proofs.YtapjofbjedpmgaaGreat
open Go Go.RowKit Go.Proofs
set_option maxHeartbeats 400000
section
variable {w0 : World} {K : Nat → Prop} {w W : World} {g : Nat} {f : FoD} {gw gr go cw cr co : Nat} {vw vr : List Value}
theorem KpB.mono {K' : Nat → Prop} (h : KpB K w W) (hk : ∀ k, K' k → K k) : KpB K' w W := fun k a => h k (hk k a)
end
end Go.Proofs.YtapjofbjedpmgaaGreat
end
section
set_option linter.unusedSimpArgs false
set_option linter.unusedVariables false
namespace Go.Proofs.YtapjofbjedpmgaaGreat
open Go Go.RowKit Go.Proofs
set_option maxHeartbeats 400000
theorem OwnLists.far {w : World} {base g : Nat} {v : Value} {xss : List (List Int)} {t : TypeId} {cs : Array Value} (h : OwnLists base w v xss) (hb : Blk w g t cs) (h1 : t ≠ 27) (h2 : t ≠ 2) (i : Nat) (x : Value) : OwnLists base (w.setCell ⟨g, i, none⟩ x) v xss := by
  obtain ⟨vs, a, b⟩ := h
  exact ⟨vs, far_blkF a hb h1 i x, fun i hi => by obtain ⟨u, c, d⟩ := b i hi; exact ⟨u, c, far_blkF d hb h2 _ x⟩⟩
/-- The same behind another symbol on a wall. -/
theorem FoGd.wall {m : MachD} {f : FoD} (h : FoGd m f) {k : Nat} {x : List Int} (hx : x.length ≤ 4) (hz : ∀ z ∈ x, 0 ≤ z ∧ z < 2) (hy : 2 ≤ m.sy) (a : Int) : FoGd m ⟨f.q, f.hd, a, f.ws.set k x, f.rs, f.os⟩ := by
  refine ⟨h.q, h.rn, by have := h.ws; simpa using this, h.os, fun y hy' => ?_, h.rl, h.ol, h.hd⟩
  rcases List.mem_or_eq_of_mem_set hy' with c | c
  · exact h.wl y c
  · subst c
    exact ⟨by omega, fun z hz' => by have := hz z hz'; omega⟩
end Go.Proofs.YtapjofbjedpmgaaGreat
end
