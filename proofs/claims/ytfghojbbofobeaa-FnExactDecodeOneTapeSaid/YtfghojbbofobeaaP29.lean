/- The append of one list of numbers to another, by its run. No condition.
Contract of the reference's tape behind a writing and a move.
Worlds that keep the blocks from one on. -/
import Derived.Test.YtfghojbbofobeaaP03
import Derived.Maps.AppendAt
import Derived.Laws.AppendOwnNone
import Derived.Test.YtfghojbbofobeaaP22
import Derived.Test.YtfghojbbofobeaaP14
import Derived.Deep.CutBlock
import Derived.Deep.DeepCutAuto
import Derived.Test.YtfghojbbofobeaaP04
section
set_option linter.unusedVariables false
set_option linter.unusedSimpArgs false
namespace Go.Proofs.Ytfghojbbofobeaa
open Go Go.RowKit Go.Proofs
set_option maxHeartbeats 400000
def FlatS (v : Value) : Prop := v = .slice none 0 0 ∨ ∃ b off n c, v = .slice (some ⟨b, off, none⟩) n c
theorem OwnInts.flatS {base : Nat} {w : World} {v : Value} {zs : List Int} (h : OwnInts base w v zs) : FlatS v := by
  rcases h.2 with ⟨rfl, _⟩ | ⟨g, cap, cur, rfl, _⟩
  · exact .inl rfl
  · exact .inr ⟨g, 0, _, cap, rfl⟩
theorem run_append_ints (w : World) (base : Nat) (v u : Value) (xs news : List Int) (hown : OwnInts base w v xs) (hu : Ints w u news) (hf : FlatS u) (hl : xs.length + news.length ≤ 4194304) (hbase : base ≤ w.heap.size) :
    ∃ v' w', (Builtin.append_ #[25, 25] 25 #[v, u]).run Try.prog w = .ok v' w' ∧ OwnInts base w' v' (xs ++ news) ∧ w.grownBy w' v.ownBlock := by
  obtain ⟨i0, hi, hz0, hz1, hz2⟩ := info_parts intInfo
  obtain ⟨A, c, rfl, _, _⟩ := id hu.form
  rcases hf with hf | ⟨b, off, n, c', hf⟩
  · injection hf with e1 e2 e3
    subst e1 e3
    have hz : news = [] := List.length_eq_zero_iff.1 e2
    subst hz
    exact ⟨v, w, run_append_owned_none (P := Try.prog) (w := w) base 25 25 2 i0 1 Try.underlying25 hi v xs.length (ivs xs) hown, by simpa using hown, ⟨rfl, rfl, rfl, Nat.le_refl _, fun _ _ _ => rfl⟩⟩
  · injection hf with e1 e2 e3
    subst e1 e3
    have hc : ∀ j y, (ivs news)[j]? = some y → w.cell? ((⟨b, off, none⟩ : Addr).add j) = some y := by
      intro j y hj
      obtain ⟨hl, _⟩ := List.getElem?_eq_some_iff.1 hj
      rw [ivs_length] at hl
      obtain ⟨b', off', e', hc⟩ := hu.at hl
      cases e'
      have := hc j hl
      have e : y = .int .i64 news[j] := by
        have := ivs_get news j hl
        rw [hj] at this
        injection this
      by_cases hj0 : j = 0
      · subst hj0
        rw [e]
        first | (simp [Addr.add]; done) | (simpa [Addr.add] using hc 0 hl)
      · rw [e]
        first | (simp [Addr.add, hj0]; done) | (simpa [Addr.add, hj0] using this)
    have h1 : ∀ u ∈ ivs news, u.oneCell' = true := by
      intro u hu
      obtain ⟨z, _, rfl⟩ := List.mem_map.1 hu
      rfl
    obtain ⟨v', w', hr, h2, h3, _, _⟩ := run_append_own_at (P := Try.prog) w base 25 25 2 i0 (.int .i64 0) 1 8 Try.underlying25 hi hz0 hz1 hz2 rfl (by decide) v xs.length (ivs xs) hown ⟨b, off, none⟩ news.length c (ivs news) (by simp) hc h1 (by unfold maxLen; omega) (by omega) hbase
    exact ⟨v', w', hr, by unfold OwnInts; rw [ivs_append, List.length_append]; exact h2, h3⟩
end Go.Proofs.Ytfghojbbofobeaa
end
section
set_option linter.unusedVariables false
set_option linter.unusedSimpArgs false
namespace Go.Proofs.Ytfghojbbofobeaa
open Go Go.RowKit Go.Proofs
set_option maxHeartbeats 400000
theorem ints_tail {w : World} {b off c : Nat} {xs : List Int} (h : Ints w (.slice (some ⟨b, off, none⟩) xs.length c) xs) (h0 : 0 < xs.length) :
    Ints w (.slice (if c = 1 then some ⟨b, off, none⟩ else some ⟨b, off + 1, none⟩) (xs.length - 1) (c - 1)) (xs.drop 1) ∧ FlatS (.slice (if c = 1 then some ⟨b, off, none⟩ else some ⟨b, off + 1, none⟩) (xs.length - 1) (c - 1)) := by
  obtain ⟨_, _, e0, hc1, hc2⟩ := h.form
  injection e0 with e1 e2 e3
  subst e1 e3
  have hl : (xs.drop 1).length = xs.length - 1 := by simp
  by_cases hc : c = 1
  · rw [if_pos hc]
    refine ⟨⟨_, c - 1, by rw [hl], by omega, by omega, by simp, fun hp => ?_⟩, .inr ⟨_, _, _, _, rfl⟩⟩
    omega
  · rw [if_neg hc]
    refine ⟨⟨_, c - 1, by rw [hl], by omega, by omega, by simp, fun hp => ⟨b, off + 1, rfl, fun j hj => ?_⟩⟩, .inr ⟨_, _, _, _, rfl⟩⟩
    have hj' : j < (xs.drop 1).length := by simpa using hj
    obtain ⟨b', off', e', hcc⟩ := h.at (k := j + 1) (by omega)
    cases e'
    have := hcc (j + 1) (by omega)
    rw [ivs_get _ j hj']
    have e : (xs.drop 1)[j] = xs[j + 1] := by
      rw [List.getElem_drop]
      congr 1
      omega
    rw [e, Nat.add_assoc, Nat.add_comm 1 j]
    exact this
/-- What the switch of the reference's writing leaves. -/
structure TpCut (w : World) (g : Nat) (t : TapeD) (s mv : Int) (u v : Value) (wx : World) : Prop where
  ext : Ext w wx
  blk : Blk wx g 93 #[.slice none 0 0, .slice none 0 0]
  sides : ∃ ls rs, Ints wx u rs ∧ Ints wx v ls ∧ ls.length ≤ 2000 ∧ rs.length ≤ 2000 ∧ writeT t s mv = ⟨trim ls, trim rs⟩
end Go.Proofs.Ytfghojbbofobeaa
end
section
set_option linter.unusedSimpArgs false
set_option linter.unusedVariables false
namespace Go.Proofs.Ytfghojbbofobeaa
open Go Go.RowKit Go.Proofs
/-- The blocks from base on are as they were. -/
def KeepB (base : Nat) (w W : World) : Prop := w.heap.size ≤ W.heap.size ∧ ∀ k, base ≤ k → k < w.heap.size → W.heap[k]? = w.heap[k]?
theorem KeepB.refl (base : Nat) (w : World) : KeepB base w w := ⟨Nat.le_refl _, fun _ _ _ => rfl⟩
theorem KeepB.trans {base : Nat} {a b c : World} (h : KeepB base a b) (k : KeepB base b c) : KeepB base a c :=
  ⟨Nat.le_trans h.1 k.1, fun i hi hl => (k.2 i hi (by have := h.1; omega)).trans (h.2 i hi hl)⟩
theorem KeepB.of_ext {base : Nat} {w W : World} (h : Ext w W) : KeepB base w W := ⟨h.size, fun k _ hl => Below.block h k hl⟩
theorem KeepB.setCell {base : Nat} (w : World) {p : Addr} (hp : p.block < base) (v : Value) : KeepB base w (w.setCell p v) := by
  refine ⟨by simp [World.setCell], fun k hk hl => Below.heap_setCell w p v k ?_⟩
  omega
theorem KeepB.cell {base : Nat} {w W : World} (h : KeepB base w W) {p : Addr} {v : Value} (hb : base ≤ p.block) (hp : w.cell? p = some v) : W.cell? p = some v := by
  have hl := World.block_lt_of_cell? w p hp
  have e := h.2 p.block hb hl
  rw [← hp]
  unfold World.cell?
  rw [e]
theorem ownsRow_keepB {w W : World} {base : Nat} {e : TypeId} {size : Nat} {v : Value} {n : Nat} {xs : List Value} (h : w.ownsRow base e size v n xs) (hk : KeepB base w W) : W.ownsRow base e size v n xs := by
  obtain ⟨h1, h2⟩ := h
  refine ⟨h1, ?_⟩
  rcases h2 with h2 | ⟨g, cap, cur, hv, hb, hh, r⟩
  · exact .inl h2
  · exact .inr ⟨g, cap, cur, hv, hb, (hk.2 g hb (Array.getElem?_eq_some_iff.1 hh).1).trans hh, r⟩
theorem Blk.keepB {base : Nat} {w W : World} {g : Nat} {t : TypeId} {cs : Array Value} (h : Blk w g t cs) (hk : KeepB base w W) (hb : base ≤ g) : Blk W g t cs := by
  have hl := h.lt
  unfold Blk at h ⊢
  rw [hk.2 g hb hl]
  exact h
end Go.Proofs.Ytfghojbbofobeaa
end
