/- Plain: a step from a configuration that an accepted proof by contexts covers leads to one that it covers.
Worlds that keep the blocks from one on.
Contract of the library's sorting of rows of numbers by the library's comparison: behind it the rows are permuted. -/
import Derived.Test.YtapjofbjedpmgaaGreatC37
import Derived.Test.YtapjofbjedpmgaaGreatC04
import Derived.Test.YtapjofbjedpmgaaGreatC09
import Derived.Lib.OwnBridge
import Derived.Shelf.SlSortCmp.Whole1
section
set_option linter.unusedSimpArgs false
set_option linter.unusedVariables false
namespace Go.Proofs.YtapjofbjedpmgaaGreat
open Go Go.RowKit Go.Proofs
theorem next_right {c : ConfD} {n k : Nat} {a : Int} (hn : 1 ≤ n) (hk : (k : Int) = c.r.getD (n + 1) 0) (q : Int) : nextR a (ctxF c n) n k = ctxF ⟨q, pushL a c.l, c.r.drop 1⟩ n := by
  have hl := ctxF_len c n
  have hlen : (nextR a (ctxF c n) n k).length = 2 * n + 1 := by unfold nextR sideR; simp [hl]; omega
  refine eq_of_getD (by rw [hlen, ctxF_len]) fun i hi => ?_
  rw [hlen] at hi
  unfold nextR sideR
  by_cases h0 : i < n
  · rw [ctxF_l h0]
    show _ = (pushL a c.l).getD i 0
    rw [pushL_get, cons_getD, cons_getD]
    by_cases e : i = 0
    · rw [if_pos e, if_pos e]
    · rw [if_neg e, if_neg e, app_getD, if_pos (by rw [List.length_take, hl]; omega), take_getD (by omega), ctxF_l (by omega)]
  · obtain ⟨j, rfl⟩ : ∃ j, i = n + j := ⟨i - n, by omega⟩
    rw [show (ctxF ⟨q, pushL a c.l, c.r.drop 1⟩ n).getD (n + j) 0 = (c.r.drop 1).getD j 0 from ctxF_r (by omega)]
    rw [drop_get, cons_getD, if_neg (by omega), app_getD, if_neg (by rw [List.length_take, hl]; omega), List.length_take, hl, cons_getD]
    by_cases e : j = 0
    · subst e
      rw [if_pos (by omega), ctxF_r (by omega)]
    · rw [if_neg (by omega), app_getD]
      by_cases e2 : j = n
      · subst e2
        rw [if_neg (by rw [List.length_drop, hl]; omega), List.length_drop, hl, cons_getD, if_pos (by omega), hk]
        congr 1
        omega
      · rw [if_pos (by rw [List.length_drop, hl]; omega), drop_get]
        have := ctxF_r (c := c) (n := n) (k := 1 + j) (by omega)
        rw [← this]
        congr 1
        omega
theorem next_left {c : ConfD} {n k : Nat} {a : Int} (hn : 1 ≤ n) (hk : (k : Int) = c.l.getD n 0) (q : Int) : nextL a (ctxF c n) n k = ctxF ⟨q, c.l.drop 1, pushL (hdD c.l) (pushL a (c.r.drop 1))⟩ n := by
  have hl := ctxF_len c n
  have hlen : (nextL a (ctxF c n) n k).length = 2 * n + 1 := by unfold nextL sideL; simp [hl]; omega
  have hls : (sideL (ctxF c n) n k).length = n := by unfold sideL; simp [hl]; omega
  refine eq_of_getD (by rw [hlen, ctxF_len]) fun i hi => ?_
  rw [hlen] at hi
  unfold nextL
  rw [app_getD, hls]
  by_cases h0 : i < n
  · rw [if_pos h0, ctxF_l h0]
    show _ = (c.l.drop 1).getD i 0
    rw [drop_get]
    unfold sideL
    rw [app_getD]
    by_cases e : i = n - 1
    · rw [if_neg (by rw [List.length_drop, List.length_take, hl]; omega), List.length_drop, List.length_take, hl, cons_getD, if_pos (by omega), hk]
      congr 1
      omega
    · rw [if_pos (by rw [List.length_drop, List.length_take, hl]; omega), drop_get, take_getD (by omega), ctxF_l (by omega)]
  · rw [if_neg h0]
    obtain ⟨j, rfl⟩ : ∃ j, i = n + j := ⟨i - n, by omega⟩
    rw [show (ctxF ⟨q, c.l.drop 1, pushL (hdD c.l) (pushL a (c.r.drop 1))⟩ n).getD (n + j) 0 = (pushL (hdD c.l) (pushL a (c.r.drop 1))).getD j 0 from ctxF_r (by omega), show n + j - n = j by omega]
    show _ = (pushL (hdD c.l) (pushL a (c.r.drop 1))).getD j 0
    rw [pushL_get]
    by_cases e : j = 0
    · subst e
      show (ctxF c n).getD 0 0 = hdD c.l
      rw [ctxF_l (by omega)]
      rfl
    · obtain ⟨i, rfl⟩ : ∃ i, j = i + 1 := ⟨j - 1, by omega⟩
      rw [List.getD_cons_succ, List.getD_cons_succ, pushL_get]
      cases i with
      | zero => rfl
      | succ i =>
        rw [List.getD_cons_succ, List.getD_cons_succ, take_getD (by omega), drop_get, drop_get]
        have := ctxF_r (c := c) (n := n) (k := 1 + i) (by omega)
        rw [← this]
        congr 1
        omega
theorem side_right {c : ConfD} {n k : Nat} (hn : 1 ≤ n) (hk : (k : Int) = c.r.getD (n + 1) 0) : sideR (ctxF c n) n k = cellsF (c.r.drop 1) 1 n := by
  have hl := ctxF_len c n
  have hls : (sideR (ctxF c n) n k).length = n := by unfold sideR; simp [hl]; omega
  refine eq_of_getD (by rw [hls, cellsF_len]) fun i hi => ?_
  rw [hls] at hi
  rw [cellsF_get hi, drop_get]
  unfold sideR
  rw [app_getD]
  by_cases e : i = n - 1
  · rw [if_neg (by rw [List.length_drop, hl]; omega), List.length_drop, hl, cons_getD, if_pos (by omega), hk]
    congr 1
    omega
  · rw [if_pos (by rw [List.length_drop, hl]; omega), drop_get]
    have := ctxF_r (c := c) (n := n) (k := 1 + (1 + i)) (by omega)
    rw [← this]
    congr 1
    omega
theorem side_left {c : ConfD} {n k : Nat} (hn : 1 ≤ n) (hk : (k : Int) = c.l.getD n 0) : sideL (ctxF c n) n k = cellsF c.l 1 n := by
  have hl := ctxF_len c n
  have hls : (sideL (ctxF c n) n k).length = n := by unfold sideL; simp [hl]; omega
  refine eq_of_getD (by rw [hls, cellsF_len]) fun i hi => ?_
  rw [hls] at hi
  rw [cellsF_get hi]
  unfold sideL
  rw [app_getD]
  by_cases e : i = n - 1
  · rw [if_neg (by rw [List.length_drop, List.length_take, hl]; omega), List.length_drop, List.length_take, hl, cons_getD, if_pos (by omega), hk]
    congr 1
    omega
  · rw [if_pos (by rw [List.length_drop, List.length_take, hl]; omega), drop_get, take_getD (by omega), ctxF_l (by omega)]
theorem take_ctx (c : ConfD) (n : Nat) : (ctxF c n).take n = cellsF c.l 0 n := by
  unfold ctxF
  rw [List.take_append_of_le_length (by rw [cellsF_len]; exact Nat.le_refl _), List.take_of_length_le (by rw [cellsF_len]; exact Nat.le_refl _)]
theorem drop_ctx (c : ConfD) (n : Nat) : (ctxF c n).drop (n + 1) = cellsF (c.r.drop 1) 0 n := by
  have hl := ctxF_len c n
  refine eq_of_getD (by rw [List.length_drop, hl, cellsF_len]; omega) fun i hi => ?_
  rw [List.length_drop, hl] at hi
  rw [drop_get, cellsF_get (by omega), drop_get]
  have := ctxF_r (c := c) (n := n) (k := 1 + (0 + i)) (by omega)
  rw [← this]
  congr 1
  omega
theorem rule_ctx {m : MachD} {c : ConfD} {n : Nat} : ruleX m c.q (ctxF c n) = lookI m c := by
  unfold ruleX lookI
  rw [ctxF_len, show (2 * n + 1) / 2 = n by omega]
  have := ctxF_r (c := c) (n := n) (k := 0) (by omega)
  rw [Nat.add_zero] at this
  rw [this]
  rfl
theorem getD_in' {xs : List Int} {sy : Int} (h : ∀ z ∈ xs, 0 ≤ z ∧ z < sy) (h0 : 0 < sy) (k : Nat) : 0 ≤ xs.getD k 0 ∧ xs.getD k 0 < sy := by
  rw [List.getD_eq_getElem?_getD]
  rcases e : xs[k]? with _ | y
  · exact ⟨by simp, by simpa using h0⟩
  · exact h y (List.mem_of_getElem? e)
theorem isR_ne {r : RuleD} (h : isR r = true) : ¬ r = noR := by
  rintro rfl
  revert h
  decide
theorem cov_step {m : MachD} {s : SetsD} {c : ConfD} (hm : machOk m = true) (hs : SetsOk s) (hk : chkX m s = true) (hg : IGood m c) (hc : covX s c = true) :
    ¬ lookI m c = noR ∧ covX s (stepI (lookI m c) c) = true := by
  obtain ⟨⟨s1, _, _, _⟩, hrl, hall⟩ := machOk_five hm
  have hn := hs.n1
  unfold covX at hc
  simp only [Bool.and_eq_true] at hc
  obtain ⟨⟨hc1, hc2⟩, hc3⟩ := hc
  rw [win_all] at hc2 hc3
  have hmem : (c.q :: ctxF c s.n) ∈ s.c := (inT_iff (fun z hz => by rw [hs.c z hz, List.length_cons, ctxF_len])).1 hc1
  unfold chkX at hk
  simp only [Bool.and_eq_true, List.all_eq_true] at hk
  have hok := hk.2 _ hmem
  unfold ctxOk at hok
  simp only [List.getD_cons_zero, List.drop_succ_cons, List.drop_zero, rule_ctx, Bool.and_eq_true, List.all_eq_true] at hok
  obtain ⟨⟨h1, h2⟩, h3⟩ := hok
  have hno := isR_ne h1
  refine ⟨hno, ?_⟩
  obtain ⟨i, hi, ei⟩ := hg.idx hm
  have hro := hall _ (List.getElem_mem hi)
  rw [← lookI_get hi ei] at hro
  obtain ⟨r, hr⟩ : ∃ r, lookI m c = r := ⟨_, rfl⟩
  rw [hr] at hno h1 h2 h3 hro ⊢
  simp only [ruleOk, hno, decide_false, Bool.false_or, Bool.and_eq_true, Bool.or_eq_true, beq_iff_eq] at hro
  have hlx : (ctxF c s.n).length / 2 = s.n := by rw [ctxF_len]; omega
  rcases hro.1.2 with hm1 | hm1
  · rw [if_pos hm1] at h2
    have hst : stepI r c = ⟨r.n, pushL r.w c.l, c.r.drop 1⟩ := by unfold stepI; rw [if_pos (by omega)]
    have hkk := getD_in' hg.r (by omega) (s.n + 1)
    obtain ⟨k, ek⟩ : ∃ k : Nat, (k : Int) = c.r.getD (s.n + 1) 0 := ⟨(c.r.getD (s.n + 1) 0).toNat, by omega⟩
    have hmemy : nextX r (ctxF c s.n) s.n k ∈ followX r (ctxF c s.n) s.n (anyT s.l) (anyT s.r) m.sy.toNat := mem_followX.2 ⟨k, by omega, by
      rw [if_pos hm1]
      unfold sideX
      rw [if_pos hm1, side_right hn ek]
      exact hc3.2 1 (by omega), rfl⟩
    have hy := h3 _ hmemy
    unfold nextX at hy
    rw [if_pos hm1, next_right hn ek r.n] at hy
    unfold covX
    rw [hst, Bool.and_eq_true, Bool.and_eq_true, win_all, win_all]
    refine ⟨⟨hy, hc2.1, fun f hf => ?_⟩, hc3.1, fun f hf => ?_⟩
    · show inT s.l (cellsF (pushL r.w c.l) f s.n) = true
      by_cases e : f = 1
      · have : cellsF (pushL r.w c.l) f s.n = cellsF c.l 0 s.n := cellsF_eq fun k _ => by rw [pushL_get, e, cons_getD, if_neg (by omega)]; congr 1; omega
        rw [this, ← take_ctx]
        unfold lostX at h2
        rw [if_pos hm1, hlx] at h2
        exact h2
      · have : cellsF (pushL r.w c.l) f s.n = cellsF c.l (f - 1) s.n := cellsF_eq fun k _ => by rw [pushL_get, cons_getD, if_neg (by omega)]; congr 1; omega
        rw [this]
        exact hc2.2 _ (by omega)
    · show inT s.r (cellsF ((c.r.drop 1).drop 1) f s.n) = true
      have : cellsF ((c.r.drop 1).drop 1) f s.n = cellsF (c.r.drop 1) (f + 1) s.n := cellsF_eq fun k _ => by rw [drop_get]; congr 1; omega
      rw [this]
      exact hc3.2 _ (by omega)
  · have hm2 : ¬ r.m = 1 := by omega
    rw [if_neg hm2] at h2
    have hst : stepI r c = ⟨r.n, c.l.drop 1, pushL (hdD c.l) (pushL r.w (c.r.drop 1))⟩ := by unfold stepI; rw [if_neg (by omega)]
    have hkk := getD_in' hg.l (by omega) s.n
    obtain ⟨k, ek⟩ : ∃ k : Nat, (k : Int) = c.l.getD s.n 0 := ⟨(c.l.getD s.n 0).toNat, by omega⟩
    have hmemy : nextX r (ctxF c s.n) s.n k ∈ followX r (ctxF c s.n) s.n (anyT s.l) (anyT s.r) m.sy.toNat := mem_followX.2 ⟨k, by omega, by
      rw [if_neg hm2]
      unfold sideX
      rw [if_neg hm2, side_left hn ek]
      exact hc2.2 1 (by omega), rfl⟩
    have hy := h3 _ hmemy
    unfold nextX at hy
    rw [if_neg hm2, next_left hn ek r.n] at hy
    unfold covX
    rw [hst, Bool.and_eq_true, Bool.and_eq_true, win_all, win_all]
    refine ⟨⟨hy, hc2.1, fun f hf => ?_⟩, hc3.1, fun f hf => ?_⟩
    · show inT s.l (cellsF (c.l.drop 1) f s.n) = true
      have : cellsF (c.l.drop 1) f s.n = cellsF c.l (f + 1) s.n := cellsF_eq fun k _ => by rw [drop_get]; congr 1; omega
      rw [this]
      exact hc2.2 _ (by omega)
    · show inT s.r (cellsF ((pushL (hdD c.l) (pushL r.w (c.r.drop 1))).drop 1) f s.n) = true
      by_cases e : f = 1
      · have : cellsF ((pushL (hdD c.l) (pushL r.w (c.r.drop 1))).drop 1) f s.n = cellsF (c.r.drop 1) 0 s.n := cellsF_eq fun k _ => by
          rw [drop_get, pushL_get, cons_getD, if_neg (by omega), pushL_get, e, cons_getD, if_neg (by omega)]; congr 1; omega
        rw [this, ← drop_ctx]
        unfold lostX at h2
        rw [if_neg hm2, hlx] at h2
        exact h2
      · have : cellsF ((pushL (hdD c.l) (pushL r.w (c.r.drop 1))).drop 1) f s.n = cellsF (c.r.drop 1) (f - 1) s.n := cellsF_eq fun k _ => by
          rw [drop_get, pushL_get, cons_getD, if_neg (by omega), pushL_get, cons_getD, if_neg (by omega)]; congr 1; omega
        rw [this]
        exact hc3.2 _ (by omega)
end Go.Proofs.YtapjofbjedpmgaaGreat
end
section
set_option linter.unusedSimpArgs false
set_option linter.unusedVariables false
namespace Go.Proofs.YtapjofbjedpmgaaGreat
open Go Go.RowKit Go.Proofs
/-- The blocks from base on are as they were. -/
def KeepB (base : Nat) (w W : World) : Prop := w.heap.size ≤ W.heap.size ∧ ∀ k, base ≤ k → k < w.heap.size → W.heap[k]? = w.heap[k]?
theorem KeepB.refl (base : Nat) (w : World) : KeepB base w w := ⟨Nat.le_refl _, fun _ _ _ => rfl⟩
theorem KeepB.trans {base : Nat} {a b c : World} (h : KeepB base a b) (k : KeepB base b c) : KeepB base a c :=
  ⟨Nat.le_trans h.1 k.1, fun i hi hl => (k.2 i hi (by have := h.1; omega)).trans (h.2 i hi hl)⟩
theorem KeepB.of_ext {base : Nat} {w W : World} (h : Ext w W) : KeepB base w W := ⟨h.size, fun k _ hl => Below.block h k hl⟩
theorem KeepB.setCell {base : Nat} (w : World) {p : Addr} (hp : p.block < base) (v : Value) : KeepB base w (w.setCell p v) := by
  refine ⟨by simp [World.setCell], fun k hk hl => Below.heap_setCell w p v k ?_⟩
  omega
theorem KeepB.cell {base : Nat} {w W : World} (h : KeepB base w W) {p : Addr} {v : Value} (hb : base ≤ p.block) (hp : w.cell? p = some v) : W.cell? p = some v := by
  have hl := World.block_lt_of_cell? w p hp
  have e := h.2 p.block hb hl
  rw [← hp]
  unfold World.cell?
  rw [e]
end Go.Proofs.YtapjofbjedpmgaaGreat
end
section
set_option linter.unusedSimpArgs false
set_option linter.unusedVariables false
set_option linter.unusedSectionVars false
set_option maxHeartbeats 4000000
namespace Go.Proofs.YtapjofbjedpmgaaGreat
open Go Go.RowKit Go.Proofs
theorem grownBy_sortW {α : Type} [Inhabited α] (enc : α → Value) (w : World) (g n : Nat) (d : Array α) (os : Array Obj) : w.grownBy (sortWorld enc w g 0 n d os) (some g) := by
  refine ⟨rfl, rfl, rfl, by simp [sortWorld], fun k hk hne => ?_⟩
  unfold sortWorld
  rw [Sort.heap_grow_old _ _ (by simpa using hk)]
  have : g ≠ k := fun e => hne (by rw [e])
  simp [Sort.putRow, Sort.mapBlock, Sort.ahead, Array.getElem?_modify, this]
/-- Rows in memory, of a list's own. -/
def OutR (base : Nat) (w : World) (v : Value) (vs : List Value) (xss : List (List Int)) : Prop :=
  w.ownsRow base 27 1 v xss.length vs ∧ ∀ i, (h : i < xss.length) → ∃ u, vs[i]? = some u ∧ OwnInts base w u xss[i]
theorem OutR.ext {base : Nat} {w w' : World} {v : Value} {vs : List Value} {xss : List (List Int)} (h : OutR base w v vs xss) (he : Ext w w') : OutR base w' v vs xss :=
  ⟨ownsRow_ext h.1 he, fun i hi => by obtain ⟨u, e, hu⟩ := h.2 i hi; exact ⟨u, e, hu.ext he⟩⟩
theorem OutR.snoc {base : Nat} {w w' : World} {v v' u : Value} {vs : List Value} {xss : List (List Int)} {ys : List Int} (h : OutR base w v vs xss) (hu : OwnInts base w u ys)
    (ho : w'.ownsRow base 27 1 v' (xss.length + 1) (vs ++ [u])) (hg : w.grownBy w' v.ownBlock) : OutR base w' v' (vs ++ [u]) (xss ++ [ys]) := by
  have hl := h.1.1
  have keep : ∀ {x : Value} {zs : List Int}, OwnInts base w x zs → OwnInts base w' x zs := fun hx => World.ownsRow.kept hx hg (own_ne hx h.1 (by decide))
  refine ⟨by simpa using ho, fun i hi => ?_⟩
  by_cases hlt : i < xss.length
  · obtain ⟨x, e, hx⟩ := h.2 i hlt
    exact ⟨x, by rw [List.getElem?_append_left (by omega), e], by rw [List.getElem_append_left hlt]; exact keep hx⟩
  · have hie : i = xss.length := by simp at hi; omega
    subst hie
    exact ⟨u, by rw [List.getElem?_append_right (by omega)]; simp [hl], by simpa using keep hu⟩
theorem OutR.rows {base : Nat} {w : World} {v : Value} {vs : List Value} {xss : List (List Int)} (h : OutR base w v vs xss) : IntRows w v xss :=
  ⟨vs, ownsRow_row h.1, fun i hi => by obtain ⟨u, e, hu⟩ := h.2 i hi; exact ⟨u, e, hu.ints⟩⟩
end Go.Proofs.YtapjofbjedpmgaaGreat
end
