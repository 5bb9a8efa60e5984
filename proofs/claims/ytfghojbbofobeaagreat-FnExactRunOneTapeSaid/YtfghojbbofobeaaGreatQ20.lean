/- The copy of a configuration with several tapes, behind a pointer. No program runs here.
Contracts of the parts of the program's judgement of a configuration with several tapes.
Contract of the program's judgement of a configuration with several tapes, where the machine, the state and the number of tapes are right. -/
import Derived.Test.YtfghojbbofobeaaGreatQ19
section
set_option linter.unusedVariables false
set_option linter.unusedSimpArgs false
namespace Go.Proofs.YtfghojbbofobeaaGreat
open Go Go.RowKit Go.Proofs Go.Maps
theorem CpM.at {w w1 : World} {c : MConfD} {v : Value} {cl : List Value} (h : CpM w c.tapes c.tapes.length v cl w1) (hx : Ext w w1) (h0 : 0 < c.tapes.length) :
    ∃ gT cap cs, v = .slice (some ⟨gT, 0, none⟩) c.tapes.length cap ∧ MAt w (fun k => k < w.heap.size) (w1.alloc (.cells #[.int .i64 c.q, v] 30)) w1.heap.size gT cap cs c := by
  have hA := Ext.alloc w1 (.cells #[.int .i64 c.q, v] 30)
  have hlen := h.len
  have hlt := fun (j : Nat) (u : Value) (g : Nat) (hj : cl[j]? = some u) (hg : u.ownBlock = some g) => h.lt (Nat.le_refl _) hj hg
  have hlow : ∀ (j : Nat) (u : Value) (g : Nat), cl[j]? = some u → u.ownBlock = some g → w.heap.size ≤ g := by
    intro j u g hj hg
    have hj2 : j < cl.length := (List.getElem?_eq_some_iff.1 hj).1
    obtain ⟨lv, rv, e1, e2, o1, o2⟩ := h.side (j / 2) (by omega) (by omega)
    by_cases hp : j = j / 2 * 2
    · rw [← hp, hj] at e1
      injection e1 with e1
      subst e1
      exact (o1.lt g hg).1
    · have hp2 : j = j / 2 * 2 + 1 := by omega
      rw [← hp2, hj] at e2
      injection e2 with e2
      subst e2
      exact (o2.lt g hg).1
  have hs := hx.size
  rcases h.own.2 with ⟨_, e⟩ | ⟨g, cap, cur, e, hb, hh, hnc, hcm, hcs, htk⟩
  · omega
  · subst e
    have hget : ∀ j, j < c.tapes.length * 2 → cur[j]? = cl[j]? := fun j hj => by
      rw [← htk, List.getElem?_take, if_pos (by omega)]
      simp
    have hB : Blk w1 g 106 cur := hh
    refine ⟨g, cap, cur, rfl, ⟨hx.trans hA, fun k hk => ?_, hs, ?_, hb, ?_, hnc, by unfold maxLen at hcm; omega, Blk.new _ _ _ _ rfl, hB.ext hA, fun i hi => ?_, fun j u q hjn hj hq => ?_, fun j u q hjn hj hq => ?_, fun i j u u' q hin hjn hij hu hv hqu hqv => ?_⟩⟩
    · exact Nat.lt_of_lt_of_le hk (hx.trans hA).size
    · simp; omega
    · simp; omega
    · obtain ⟨lv, rv, e1, e2, o1, o2⟩ := h.side i hi hi
      exact ⟨lv, rv, by rw [hget _ (by omega)]; exact e1, by rw [hget _ (by omega)]; exact e2, Side.ofOwn (o1.ext hA), Side.ofOwn (o2.ext hA)⟩
    · rw [hget j hjn] at hj
      have := hlow j u q hj (ownS_own hq)
      simp; omega
    · rw [hget j hjn] at hj
      have a := hlow j u q hj (ownS_own hq)
      have b := hlt j u q hj (ownS_own hq)
      exact ⟨a, Nat.lt_of_lt_of_le b hA.size⟩
    · rw [hget i hin] at hu
      rw [hget j hjn] at hv
      exact h.ap i j u u' q hij hu hv (ownS_own hqu) (ownS_own hqv)
end Go.Proofs.YtfghojbbofobeaaGreat
end
section
set_option linter.unusedVariables false
set_option linter.unusedSimpArgs false
namespace Go.Proofs.YtfghojbbofobeaaGreat
open Go Go.RowKit Go.Proofs Go.Maps
set_option maxHeartbeats 400000
end Go.Proofs.YtfghojbbofobeaaGreat
end
section
set_option linter.unusedVariables false
set_option linter.unusedSimpArgs false
namespace Go.Proofs.YtfghojbbofobeaaGreat
open Go Go.RowKit Go.Proofs Go.Maps
set_option maxHeartbeats 400000
end Go.Proofs.YtfghojbbofobeaaGreat
end
