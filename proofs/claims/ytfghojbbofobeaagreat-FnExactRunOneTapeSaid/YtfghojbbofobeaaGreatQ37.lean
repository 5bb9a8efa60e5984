/- Contract of the reference's tape behind a writing and a move.
Worlds that keep the blocks from one on.
Contract of the reference's step of a configuration with several tapes. -/
import Derived.Test.YtfghojbbofobeaaGreatQ21
import Derived.Test.YtfghojbbofobeaaGreatQ36
import Derived.Test.YtfghojbbofobeaaGreatQ13
import Derived.Deep.CutBlock
import Derived.Deep.DeepCutAuto
import Derived.Test.YtfghojbbofobeaaGreatQ04
import Derived.Test.YtfghojbbofobeaaGreatQ22
import Derived.Test.YtfghojbbofobeaaGreatQ19
import Derived.Test.YtfghojbbofobeaaGreatQ18
import Derived.Test.YtfghojbbofobeaaGreatQ12
section
set_option linter.unusedVariables false
set_option linter.unusedSimpArgs false
namespace Go.Proofs.YtfghojbbofobeaaGreat
open Go Go.RowKit Go.Proofs
set_option maxHeartbeats 400000
theorem ints_tail {w : World} {b off c : Nat} {xs : List Int} (h : Ints w (.slice (some ⟨b, off, none⟩) xs.length c) xs) (h0 : 0 < xs.length) :
    Ints w (.slice (if c = 1 then some ⟨b, off, none⟩ else some ⟨b, off + 1, none⟩) (xs.length - 1) (c - 1)) (xs.drop 1) ∧ FlatS (.slice (if c = 1 then some ⟨b, off, none⟩ else some ⟨b, off + 1, none⟩) (xs.length - 1) (c - 1)) := by
  obtain ⟨_, _, e0, hc1, hc2⟩ := h.form
  injection e0 with e1 e2 e3
  subst e1 e3
  have hl : (xs.drop 1).length = xs.length - 1 := by simp
  by_cases hc : c = 1
  · rw [if_pos hc]
    refine ⟨⟨_, c - 1, by rw [hl], by omega, by omega, by simp, fun hp => ?_⟩, .inr ⟨_, _, _, _, rfl⟩⟩
    omega
  · rw [if_neg hc]
    refine ⟨⟨_, c - 1, by rw [hl], by omega, by omega, by simp, fun hp => ⟨b, off + 1, rfl, fun j hj => ?_⟩⟩, .inr ⟨_, _, _, _, rfl⟩⟩
    have hj' : j < (xs.drop 1).length := by simpa using hj
    obtain ⟨b', off', e', hcc⟩ := h.at (k := j + 1) (by omega)
    cases e'
    have := hcc (j + 1) (by omega)
    rw [ivs_get _ j hj']
    have e : (xs.drop 1)[j] = xs[j + 1] := by
      rw [List.getElem_drop]
      congr 1
      omega
    rw [e, Nat.add_assoc, Nat.add_comm 1 j]
    exact this
/-- What the switch of the reference's writing leaves. -/
structure TpCut (w : World) (g : Nat) (t : TapeD) (s mv : Int) (u v : Value) (wx : World) : Prop where
  ext : Ext w wx
  blk : Blk wx g 106 #[.slice none 0 0, .slice none 0 0]
  sides : ∃ ls rs, Ints wx u rs ∧ Ints wx v ls ∧ ls.length ≤ 2000 ∧ rs.length ≤ 2000 ∧ writeT t s mv = ⟨trim ls, trim rs⟩
end Go.Proofs.YtfghojbbofobeaaGreat
end
section
set_option linter.unusedSimpArgs false
set_option linter.unusedVariables false
namespace Go.Proofs.YtfghojbbofobeaaGreat
open Go Go.RowKit Go.Proofs
/-- The blocks from base on are as they were. -/
def KeepB (base : Nat) (w W : World) : Prop := w.heap.size ≤ W.heap.size ∧ ∀ k, base ≤ k → k < w.heap.size → W.heap[k]? = w.heap[k]?
theorem KeepB.refl (base : Nat) (w : World) : KeepB base w w := ⟨Nat.le_refl _, fun _ _ _ => rfl⟩
theorem KeepB.trans {base : Nat} {a b c : World} (h : KeepB base a b) (k : KeepB base b c) : KeepB base a c :=
  ⟨Nat.le_trans h.1 k.1, fun i hi hl => (k.2 i hi (by have := h.1; omega)).trans (h.2 i hi hl)⟩
theorem KeepB.of_ext {base : Nat} {w W : World} (h : Ext w W) : KeepB base w W := ⟨h.size, fun k _ hl => Below.block h k hl⟩
theorem KeepB.setCell {base : Nat} (w : World) {p : Addr} (hp : p.block < base) (v : Value) : KeepB base w (w.setCell p v) := by
  refine ⟨by simp [World.setCell], fun k hk hl => Below.heap_setCell w p v k ?_⟩
  omega
theorem KeepB.cell {base : Nat} {w W : World} (h : KeepB base w W) {p : Addr} {v : Value} (hb : base ≤ p.block) (hp : w.cell? p = some v) : W.cell? p = some v := by
  have hl := World.block_lt_of_cell? w p hp
  have e := h.2 p.block hb hl
  rw [← hp]
  unfold World.cell?
  rw [e]
theorem ownsRow_keepB {w W : World} {base : Nat} {e : TypeId} {size : Nat} {v : Value} {n : Nat} {xs : List Value} (h : w.ownsRow base e size v n xs) (hk : KeepB base w W) : W.ownsRow base e size v n xs := by
  obtain ⟨h1, h2⟩ := h
  refine ⟨h1, ?_⟩
  rcases h2 with h2 | ⟨g, cap, cur, hv, hb, hh, r⟩
  · exact .inl h2
  · exact .inr ⟨g, cap, cur, hv, hb, (hk.2 g hb (Array.getElem?_eq_some_iff.1 hh).1).trans hh, r⟩
theorem Blk.keepB {base : Nat} {w W : World} {g : Nat} {t : TypeId} {cs : Array Value} (h : Blk w g t cs) (hk : KeepB base w W) (hb : base ≤ g) : Blk W g t cs := by
  have hl := h.lt
  unfold Blk at h ⊢
  rw [hk.2 g hb hl]
  exact h
end Go.Proofs.YtfghojbbofobeaaGreat
end
section
set_option linter.unusedVariables false
set_option linter.unusedSimpArgs false
namespace Go.Proofs.YtfghojbbofobeaaGreat
open Go Go.RowKit Go.Proofs Go.Maps
set_option maxHeartbeats 400000
/-- The cells of tapes, whose sides are rows of their own. -/
def TCells (base : Nat) (w : World) (cl : List Value) (ts : List TapeD) : Prop :=
  cl.length = ts.length * 2 ∧ ∀ i, (h : i < ts.length) → ∃ lv rv, cl[i * 2]? = some lv ∧ cl[i * 2 + 1]? = some rv ∧ OwnInts base w lv ts[i].l ∧ OwnInts base w rv ts[i].r
theorem TCells.nil (base : Nat) (w : World) : TCells base w [] [] := ⟨rfl, fun i h => by simp at h⟩
theorem TCells.snoc {base : Nat} {w : World} {cl : List Value} {ts : List TapeD} {t : TapeD} {lv rv : Value} (h : TCells base w cl ts) (h1 : OwnInts base w lv t.l) (h2 : OwnInts base w rv t.r) : TCells base w (cl ++ [lv, rv]) (ts ++ [t]) := by
  obtain ⟨a, b⟩ := h
  refine ⟨by simp [a]; omega, fun i hi => ?_⟩
  by_cases hlt : i < ts.length
  · obtain ⟨x, y, c0, c1, o⟩ := b i hlt
    refine ⟨x, y, by rw [List.getElem?_append_left (by omega), c0], by rw [List.getElem?_append_left (by omega), c1], ?_⟩
    rw [List.getElem_append_left hlt]
    exact o
  · obtain rfl : i = ts.length := by simp at hi; omega
    refine ⟨lv, rv, by rw [List.getElem?_append_right (by omega)]; simp [a], by rw [List.getElem?_append_right (by omega)]; simp [a], ?_⟩
    rw [List.getElem_append_right (by omega)]
    simpa using ⟨h1, h2⟩
theorem TCells.ext {base : Nat} {w w' : World} {cl : List Value} {ts : List TapeD} (h : TCells base w cl ts) (he : Ext w w') : TCells base w' cl ts :=
  ⟨h.1, fun i hi => by
    obtain ⟨x, y, c0, c1, o1, o2⟩ := h.2 i hi
    exact ⟨x, y, c0, c1, OwnInts.ext o1 he, OwnInts.ext o2 he⟩⟩
theorem TCells.same {base : Nat} {w w' : World} {cl : List Value} {ts : List TapeD} (h : TCells base w cl ts) (hs : ∀ g cs, Blk w g 2 cs → w'.heap[g]? = w.heap[g]?) : TCells base w' cl ts := by
  have hi : ∀ {u : Value} {zs : List Int}, OwnInts base w u zs → OwnInts base w' u zs := fun {u zs} o => own_same o (fun g hg => by
    rcases o.2 with ⟨rfl, _⟩ | ⟨g', cap, cur, rfl, _, hh, _⟩
    · simp [Value.ownBlock] at hg
    · simp [Value.ownBlock] at hg
      subst hg
      exact hs _ _ hh)
  refine ⟨h.1, fun i hi' => ?_⟩
  obtain ⟨x, y, c0, c1, o1, o2⟩ := h.2 i hi'
  exact ⟨x, y, c0, c1, hi o1, hi o2⟩
theorem TCells.keepB {base : Nat} {w w' : World} {cl : List Value} {ts : List TapeD} (h : TCells base w cl ts) (hk : KeepB base w w') : TCells base w' cl ts :=
  ⟨h.1, fun i hi => by
    obtain ⟨x, y, c0, c1, o1, o2⟩ := h.2 i hi
    exact ⟨x, y, c0, c1, ownsRow_keepB o1 hk, ownsRow_keepB o2 hk⟩⟩
/-- Tapes in a row of their own. -/
def OwnT (base : Nat) (w : World) (v : Value) (ts : List TapeD) : Prop := ∃ cl, w.ownsRow base 106 2 v ts.length cl ∧ TCells base w cl ts
theorem OwnT.ext {base : Nat} {w w' : World} {v : Value} {ts : List TapeD} (h : OwnT base w v ts) (he : Ext w w') : OwnT base w' v ts := by
  obtain ⟨cl, a, b⟩ := h
  exact ⟨cl, ownsRow_ext a he, b.ext he⟩
theorem OwnT.keepB {base : Nat} {w w' : World} {v : Value} {ts : List TapeD} (h : OwnT base w v ts) (hk : KeepB base w w') : OwnT base w' v ts := by
  obtain ⟨cl, a, b⟩ := h
  exact ⟨cl, ownsRow_keepB a hk, b.keepB hk⟩
theorem OwnT.form {base : Nat} {w : World} {v : Value} {ts : List TapeD} (h : OwnT base w v ts) : ∃ A c, v = .slice A ts.length c ∧ ts.length ≤ c ∧ c ≤ 9223372036854775807 := by
  obtain ⟨cl, h1, h2⟩ := h
  obtain ⟨A, c, e, a, b, _⟩ := (ownsRow_row h1).form
  exact ⟨A, c, e, a, b⟩
theorem OwnT.far {base : Nat} {w : World} {v : Value} {ts : List TapeD} (h : OwnT base w v ts) {g : Nat} {t : TypeId} {cs : Array Value} (hb : Blk w g t cs) (h1 : t ≠ 106) (h2 : t ≠ 2) (i : Nat) (u : Value) : OwnT base (w.setCell ⟨g, i, none⟩ u) v ts := by
  obtain ⟨cl, ho, hc⟩ := h
  exact ⟨cl, own_kept ho (grownBy_setCell w ⟨g, i, none⟩ u) (blk_ne_row hb ho h1), hc.same fun q cs' hq => Below.heap_setCell w _ u q (by exact blk_ne hq hb (fun e => h2 e.symm))⟩
theorem OwnT.tapes {base : Nat} {w : World} {v : Value} {ts : List TapeD} (h : OwnT base w v ts) : Tapes w v ts := by
  obtain ⟨cl, h1, h2⟩ := h
  obtain ⟨A, c, rfl, a, b, hr⟩ := ownsRow_row h1
  refine ⟨A, c, rfl, a, b, fun hn => ?_⟩
  obtain ⟨g, off, rfl, hc⟩ := hr.2 hn
  refine ⟨g, off, rfl, fun i hi => ?_⟩
  obtain ⟨x, y, c0, c1, o1, o2⟩ := h2.2 i hi
  have hl := h2.1
  exact ⟨x, y, (hc _ (by omega)).trans c0, by rw [Nat.add_assoc]; exact (hc _ (by omega)).trans c1, o1.ints, o2.ints⟩
theorem tapeInfoS : (Tryz.prog.info? 106).map (fun i => (i.zero, i.size, i.bytes)) = some (some (.agg #[.slice none 0 0, .slice none 0 0]), 2, 48) := by kernel_rfl
/-- What a step of the reference gives. -/
def StepRS (m : MultiD) (c : MConfD) (base : Nat) (e : Ending) (w' : World) : Prop :=
  (lookM m.rules c = none ∧ e = .returned (.tuple #[.agg #[.int .i64 0, .slice none 0 0], .int .i64 6])) ∨
  (∃ k, lookM m.rules c = some k ∧ roomM (applyM c (m.rules.getD k mr0)) = false ∧ e = .returned (.tuple #[.agg #[.int .i64 0, .slice none 0 0], .int .i64 5])) ∨
  (∃ k A cap, lookM m.rules c = some k ∧ roomM (applyM c (m.rules.getD k mr0)) = true ∧ e = .returned (.tuple #[.agg #[.int .i64 (applyM c (m.rules.getD k mr0)).q, .slice A c.tapes.length cap], .int .i64 0]) ∧ OwnT base w' (.slice A c.tapes.length cap) (applyM c (m.rules.getD k mr0)).tapes)
/-- A tape that the reference has just made. -/
structure TpNew (w : World) (t : TapeD) (p : Value) (wx : World) : Prop where
  ext : Ext w wx
  at_ : ∃ gt lv rv, p = .pointer (some ⟨gt, 0, none⟩) ∧ w.heap.size ≤ gt ∧ Blk wx gt 106 #[lv, rv] ∧ OwnInts w.heap.size wx lv t.l ∧ OwnInts w.heap.size wx rv t.r
end Go.Proofs.YtfghojbbofobeaaGreat
end
