/- Contract of the library's sorting of rows of numbers by the library's comparison: behind it the rows are permuted. -/
import Derived.Test.YtkdigfgodjjiaaaGreatCmpL
import Derived.Lib.OwnBridge
import Derived.Shelf.SlSortCmp.Whole1
set_option linter.unusedSimpArgs false
set_option linter.unusedVariables false
set_option linter.unusedSectionVars false
set_option maxHeartbeats 4000000
namespace Go.Proofs.YtkdigfgodjjiaaaGreat
open Go Go.RowKit Go.Proofs
theorem grownBy_sortW {α : Type} [Inhabited α] (enc : α → Value) (w : World) (g n : Nat) (d : Array α) (os : Array Obj) : w.grownBy (sortWorld enc w g 0 n d os) (some g) := by
  refine ⟨rfl, rfl, rfl, by simp [sortWorld], fun k hk hne => ?_⟩
  unfold sortWorld
  rw [Sort.heap_grow_old _ _ (by simpa using hk)]
  have : g ≠ k := fun e => hne (by rw [e])
  simp [Sort.putRow, Sort.mapBlock, Sort.ahead, Array.getElem?_modify, this]
/-- The blocks from base on are as they were. -/
def KeepB (base : Nat) (w W : World) : Prop := w.heap.size ≤ W.heap.size ∧ ∀ k, base ≤ k → k < w.heap.size → W.heap[k]? = w.heap[k]?
theorem KeepB.refl (base : Nat) (w : World) : KeepB base w w := ⟨Nat.le_refl _, fun _ _ _ => rfl⟩
theorem KeepB.trans {base : Nat} {a b c : World} (h : KeepB base a b) (k : KeepB base b c) : KeepB base a c :=
  ⟨Nat.le_trans h.1 k.1, fun i hi hl => (k.2 i hi (by have := h.1; omega)).trans (h.2 i hi hl)⟩
theorem KeepB.of_ext {base : Nat} {w W : World} (h : Ext w W) : KeepB base w W := ⟨h.size, fun k _ hl => Below.block h k hl⟩
theorem KeepB.setCell {base : Nat} (w : World) {p : Addr} (hp : p.block < base) (v : Value) : KeepB base w (w.setCell p v) := by
  refine ⟨by simp [World.setCell], fun k hk hl => Below.heap_setCell w p v k ?_⟩
  omega
theorem KeepB.cell {base : Nat} {w W : World} (h : KeepB base w W) {p : Addr} {v : Value} (hb : base ≤ p.block) (hp : w.cell? p = some v) : W.cell? p = some v := by
  have hl := World.block_lt_of_cell? w p hp
  have e := h.2 p.block hb hl
  rw [← hp]
  unfold World.cell?
  rw [e]
theorem ownsRow_keepB {w W : World} {base : Nat} {e : TypeId} {size : Nat} {v : Value} {n : Nat} {xs : List Value} (h : w.ownsRow base e size v n xs) (hk : KeepB base w W) : W.ownsRow base e size v n xs := by
  obtain ⟨h1, h2⟩ := h
  refine ⟨h1, ?_⟩
  rcases h2 with h2 | ⟨g, cap, cur, hv, hb, hh, r⟩
  · exact .inl h2
  · exact .inr ⟨g, cap, cur, hv, hb, (hk.2 g hb (Array.getElem?_eq_some_iff.1 hh).1).trans hh, r⟩
/-- Rows in memory, of a list's own. -/
def OutR (base : Nat) (w : World) (v : Value) (vs : List Value) (xss : List (List Int)) : Prop :=
  w.ownsRow base 28 1 v xss.length vs ∧ ∀ i, (h : i < xss.length) → ∃ u, vs[i]? = some u ∧ OwnInts base w u xss[i]
theorem OutR.ext {base : Nat} {w w' : World} {v : Value} {vs : List Value} {xss : List (List Int)} (h : OutR base w v vs xss) (he : Ext w w') : OutR base w' v vs xss :=
  ⟨ownsRow_ext h.1 he, fun i hi => by obtain ⟨u, e, hu⟩ := h.2 i hi; exact ⟨u, e, hu.ext he⟩⟩
theorem OutR.snoc {base : Nat} {w w' : World} {v v' u : Value} {vs : List Value} {xss : List (List Int)} {ys : List Int} (h : OutR base w v vs xss) (hu : OwnInts base w u ys)
    (ho : w'.ownsRow base 28 1 v' (xss.length + 1) (vs ++ [u])) (hg : w.grownBy w' v.ownBlock) : OutR base w' v' (vs ++ [u]) (xss ++ [ys]) := by
  have hl := h.1.1
  have keep : ∀ {x : Value} {zs : List Int}, OwnInts base w x zs → OwnInts base w' x zs := fun hx => World.ownsRow.kept hx hg (own_ne hx h.1 (by decide))
  refine ⟨by simpa using ho, fun i hi => ?_⟩
  by_cases hlt : i < xss.length
  · obtain ⟨x, e, hx⟩ := h.2 i hlt
    exact ⟨x, by rw [List.getElem?_append_left (by omega), e], by rw [List.getElem_append_left hlt]; exact keep hx⟩
  · have hie : i = xss.length := by simp at hi; omega
    subst hie
    exact ⟨u, by rw [List.getElem?_append_right (by omega)]; simp [hl], by simpa using keep hu⟩
theorem OutR.rows {base : Nat} {w : World} {v : Value} {vs : List Value} {xss : List (List Int)} (h : OutR base w v vs xss) : IntRows w v xss :=
  ⟨vs, ownsRow_row h.1, fun i hi => by obtain ⟨u, e, hu⟩ := h.2 i hi; exact ⟨u, e, hu.ints⟩⟩
set_option maxRecDepth 20000 in
theorem sortRows_c (base : Nat) (w : World) (v : Value) (vs : List Value) (xss : List (List Int)) (h : OutR base w v vs xss) (h0 : 0 < xss.length) (h1 : xss.length ≤ 1048576) :
    Calls Tryz.prog 26 #[v, .func (.func 27) #[] #[]] w fun e w' => e = .returned (.tuple #[]) ∧ (∃ yss, yss.Perm xss ∧ ∀ W, KeepB base w' W → IntRows W v yss) ∧ w.grownBy w' v.ownBlock := by
  obtain ⟨A, cap, rfl, g1, g2, _⟩ := (ownsRow_row h.1).form
  obtain ⟨g, rfl, hb, hlt⟩ := own_at h.1 h0
  have hlen : vs.length = xss.length := by have := h.1.1; omega
  obtain ⟨enc, henc⟩ : ∃ enc : Nat → Value, enc = fun k => vs.getD k (.slice none 0 0) := ⟨_, rfl⟩
  have hrow : ∀ (W0 : World), w.grownBy W0 (some g) → ∀ W, KeepB base W0 W → ∀ k, Ints W (enc k) (xss.getD k []) := by
    intro W0 hW W hWW k
    rw [henc]
    by_cases hk : k < xss.length
    · obtain ⟨u, e, hu⟩ := h.2 k hk
      have hu' : OwnInts base W u xss[k] := ownsRow_keepB (World.ownsRow.kept hu hW (own_ne hu h.1 (by decide))) hWW
      simp only [List.getD_eq_getElem?_getD, e, List.getElem?_eq_getElem hk, Option.getD_some]
      exact hu'.ints
    · simp only [List.getD_eq_getElem?_getD, List.getElem?_eq_none (show vs.length ≤ k by omega), List.getElem?_eq_none (show xss.length ≤ k by omega), Option.getD_none]
      exact ⟨none, 0, rfl, Nat.le_refl _, by omega, by simp [ivs], fun hn => absurd hn (by simp)⟩
  have hone : ∀ k, (enc k).oneCell' = true := by
    intro k
    obtain ⟨A, c, e, _⟩ := (hrow w (World.grownBy.refl _ _) w (KeepB.refl _ _) k).form
    rw [e]
    rfl
  have hO : Sort.SWO (ltOf fun i j : Nat => cmpL (xss.getD i []) (xss.getD j [])) := by
    refine ⟨fun x => ?_, fun x y z h1 h2 => ?_, fun x y z h1 h2 => ?_⟩
    · simp [ltOf, cmpL_self]
    · simp only [ltOf, decide_eq_true_eq] at *
      exact cmpL_trans _ _ _ h1 h2
    · simp only [ltOf, decide_eq_false_iff_not] at *
      exact cmpL_ntrans _ _ _ h1 h2
  have hsz : (List.range xss.length).toArray.size = xss.length := by simp
  have hcell : ∀ j, j < xss.length → w.cell? ⟨g, j, none⟩ = some (enc j) ∧ w.frozen? ⟨g, j, none⟩ = false := by
    intro j hj
    rcases h.1.2 with ⟨e, _⟩ | ⟨g', cap', cur, hv, hb', hh, hnc, hcm, hcs, htk⟩
    · cases e
    · injection hv with e1 e2 e3
      injection e1 with e1
      injection e1 with e1
      subst e1
      refine ⟨?_, ?_⟩
      · rw [cell_of_row w g j cur _ (0, 0) hh, henc]
        have hjv : j < vs.length := by omega
        have : vs[j]? = cur.toList[j]? := by rw [← htk, List.getElem?_take_of_lt (by omega)]
        show cur[j]? = some (vs.getD j (.slice none 0 0))
        rw [List.getD_eq_getElem?_getD, this, Array.getElem?_toList]
        have hjc : j < cur.size := by omega
        simp [hjc]
      · unfold World.frozen?
        simp [hh]
  have hH : Sort.Holds enc w g 0 (List.range xss.length).toArray := by
    intro j hj
    rw [hsz] at hj
    rw [Nat.zero_add]
    have : (List.range xss.length).toArray[j]! = j := by simp [hj]
    rw [this]
    exact hcell j hj
  have key := Tryz.slices_SortFunc enc hone (fun i j : Nat => cmpL (xss.getD i []) (xss.getD j [])) hO 27 #[] g 0 cap (List.range xss.length).toArray w (enters_of Tryz.func27 (by kernel_rfl) rfl)
    (fun m os dk hdk x y => by
      have hW := grownBy_sortW enc w g m dk os
      refine (slicesCompare_c _ _ _ _ _ (hrow _ hW _ (KeepB.refl _ _) x) (hrow _ hW _ (KeepB.refl _ _) y)).mono ?_
      rintro e w' ⟨rfl, rfl⟩
      exact ⟨rfl, 0, #[], by rw [Sort.grow_empty]; rfl⟩) hH hlt (by rw [hsz]; omega)
  rw [hsz] at key
  refine key.mono ?_
  rintro e w' ⟨rfl, d', n, os, hp, _, rfl⟩
  have hgw := grownBy_sortW enc w g n d' os
  obtain ⟨hp1, hp2, hp3⟩ := hp
  have hd' : d'.size = xss.length := by rw [hp1, hsz]
  have hperm : d'.toList.Perm (List.range xss.length) := by
    have e1 : d'.extract 0 xss.length = d' := by
      rw [← hd', Array.extract_size]
    have e2 : (List.range xss.length).toArray.extract 0 xss.length = (List.range xss.length).toArray := by
      have := @Array.extract_size _ (List.range xss.length).toArray
      rwa [hsz] at this
    rw [e1, e2] at hp3
    simpa using hp3
  refine ⟨rfl, ⟨d'.toList.map fun k => xss.getD k [], ?_, ?_⟩, hgw⟩
  · have h3 := hperm.map (fun k => xss.getD k [])
    have e : (List.range xss.length).map (fun k => xss.getD k []) = xss := by
      apply List.ext_getElem (by simp)
      intro i h1 h2
      simp [List.getD_eq_getElem?_getD, List.getElem?_eq_getElem h2]
    rwa [e] at h3
  · have hrl : (d'.toList.map fun k => xss.getD k []).length = xss.length := by simp [hd']
    intro W hWW
    refine ⟨d'.toList.map enc, ⟨_, cap, by rw [hrl], by omega, g2, by simp, fun _ => ⟨g, 0, rfl, fun j hj => ?_⟩⟩, fun i hi => ?_⟩
    · have hj' : j < d'.size := by simpa using hj
      have hHs := holds_sortWorld enc w g 0 n _ d' os hlt hH (by rw [hp1])
      have := hWW.cell (by show base ≤ g; exact hb) (hHs j hj').1
      rw [this]
      simp [hj']
    · have hi' : i < d'.size := by simpa using hi
      refine ⟨enc d'.toList[i], by simp [hi'], ?_⟩
      have := hrow _ hgw W hWW d'.toList[i]
      simpa using this
end Go.Proofs.YtkdigfgodjjiaaaGreat
