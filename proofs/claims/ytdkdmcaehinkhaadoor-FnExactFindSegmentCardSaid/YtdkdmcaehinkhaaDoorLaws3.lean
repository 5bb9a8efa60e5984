/- Contracts of the laws' copies of machines, continued. No condition. -/
import Derived.Test.YtdkdmcaehinkhaaDoorLaws2
namespace Go.Proofs.YtdkdmcaehinkhaaDoor
open Go Go.RowKit Go.Proofs
set_option maxHeartbeats 400000
theorem ruleInfo : (Tryd.prog.info? 79).map (fun i => (i.zero, i.size, i.bytes)) = some (some (.agg #[.int .i64 0, .int .i64 0, .int .i64 0]), 3, 24) := by kernel_rfl
/-- The first k rules stand in the cells. -/
def filled (rs : List RuleD) (k : Nat) (xs : List Value) : Prop := xs.take (k * 3) = rvs (rs.take k)
theorem filled_zero (rs : List RuleD) (xs : List Value) : filled rs 0 xs := by simp [filled, rvs]
theorem rvs_append (a b : List RuleD) : rvs (a ++ b) = rvs a ++ rvs b := by simp [rvs]
theorem take3 {α : Type} (xs : List α) (k : Nat) (a b c : α) (h : k * 3 + 2 < xs.length) :
    (((xs.set (k * 3) a).set (k * 3 + 1) b).set (k * 3 + 2) c).take ((k + 1) * 3) = xs.take (k * 3) ++ [a, b, c] := by
  apply List.ext_getElem?
  intro i
  rw [List.getElem?_take]
  by_cases h1 : i < k * 3
  · rw [if_pos (by omega), List.getElem?_append_left (by simp; omega), List.getElem?_take, if_pos h1, List.getElem?_set_ne (by omega), List.getElem?_set_ne (by omega), List.getElem?_set_ne (by omega)]
  · rw [List.getElem?_append_right (by simp; omega)]
    have hl : (xs.take (k * 3)).length = k * 3 := by simp; omega
    rw [hl]
    by_cases e0 : i = k * 3
    · subst e0
      rw [if_pos (by omega), List.getElem?_set_ne (by omega), List.getElem?_set_ne (by omega), List.getElem?_set_self (by omega)]
      simp
    · by_cases e1 : i = k * 3 + 1
      · subst e1
        rw [if_pos (by omega), List.getElem?_set_ne (by omega), List.getElem?_set_self (by simp; omega)]
        simp
      · by_cases e2 : i = k * 3 + 2
        · subst e2
          rw [if_pos (by omega), List.getElem?_set_self (by simp; omega)]
          simp
        · rw [if_neg (by omega), List.getElem?_eq_none (by simp; omega)]
theorem filled_step {rs : List RuleD} {k : Nat} {xs : List Value} (h : filled rs k xs) (hk : k < rs.length) (hx : xs.length = rs.length * 3) :
    filled rs (k + 1) (((xs.set (k * 3) (.int .i64 rs[k].w)).set (k * 3 + 1) (.int .i64 rs[k].m)).set (k * 3 + 2) (.int .i64 rs[k].n)) := by
  unfold filled at *
  rw [take3 xs k _ _ _ (by omega), h, List.take_succ_eq_append_getElem hk, rvs_append]
  rfl
theorem filled_end {rs : List RuleD} {k : Nat} {xs : List Value} (h : filled rs k xs) (hk : rs.length ≤ k) (hx : xs.length = rs.length * 3) : xs = rvs rs := by
  unfold filled at h
  rwa [List.take_of_length_le (by omega), List.take_of_length_le hk] at h
/-- A slice of rules that lies in memory of the call's own. -/
def OwnRules (base : Nat) (w : World) (v : Value) (rs : List RuleD) : Prop := w.ownsRow base 79 3 v rs.length (rvs rs)
theorem OwnRules.rules {base : Nat} {w : World} {v : Value} {rs : List RuleD} (h : OwnRules base w v rs) : Rules w v rs := ownsRow_row h
theorem OwnRules.ext {base : Nat} {w w' : World} {v : Value} {rs : List RuleD} (h : OwnRules base w v rs) (he : Ext w w') : OwnRules base w' v rs := ownsRow_ext h he

theorem toRuleS_c (v : Value) (rs : List RuleD) (w : World) (h : Rules w v rs) (hn : rs.length ≤ 1048576) :
    Calls Tryd.prog 28 #[v] w fun e w' => ∃ u, e = .returned u ∧ OwnRules w.heap.size w' u rs ∧ Ext w w' := by
  obtain ⟨A, c, rfl, h2, h3⟩ := h.form
  obtain ⟨i0, hi, hz0, hz1, hz2⟩ := info_parts ruleInfo
  go_enter Tryd.func28, Tryd.ntmps28
  go_wp2_with (at_make; refine wpList_make_full _ rfl _ _ 29 rfl w.heap.size 79 i0 _ 3 Tryd.underlying29 hi hz0 hz1 .i64 .i64 _ _ rs.length rfl rfl rfl rfl ?c1 ?c2 ?c3 ?_)
  case c1 => rw [hz2]; omega
  case c2 => unfold maxLen; omega
  case c3 => exact Nat.le_refl _
  intro w1 hown hgr
  have hx1 : Ext w w1 := (Ext.refl _).grown hgr (by simp)
  obtain ⟨cs, hown⟩ : ∃ cs, w1.ownsRow w.heap.size 79 3 (.slice (some ⟨w.heap.size, 0, none⟩) rs.length rs.length) rs.length cs := ⟨_, hown⟩
  clear hgr hi hz0 hz1 hz2
  have hsz : w.heap.size < w1.heap.size := (hown.lt _ rfl).2
  generalize hg : w.heap.size = g at *
  have HG := Lib.hid hg
  clear hg
  go_wp2
  go_loopw [4] (fun i wr => ∃ k : Nat, k ≤ rs.length ∧ i = .int .i64 k ∧ Ext w wr ∧ ∃ xs, wr.ownsRow g 79 3 (.slice (some ⟨g, 0, none⟩) rs.length rs.length) rs.length xs ∧ filled rs k xs) (fun i _ => rs.length - (intOf i).toNat)
  case atStart => exact ⟨0, Nat.zero_le _, rfl, hx1, cs, hown, filled_zero _ _⟩
  case round =>
    obtain ⟨k, hk, rfl, hx, xs, ho, hf⟩ := hrel
    by_cases hlt : k < rs.length
    · obtain ⟨b, off, rfl, hc⟩ := h.at hlt
      obtain ⟨c0, c1, c2⟩ := hc k hlt
      have d0 := hx.cell c0
      have d1 := hx.cell c1
      have d2 := hx.cell c2
      clear c0 c1 c2 hc
      go_wp2_with fail
      refine (toRule_c _ _ _ _).mono ?_
      rintro e w2 ⟨rfl, hx2⟩
      have ho2 := ownsRow_ext ho hx2
      have hl := ho.1
      have q0 := ho2.cellAt (k * 3) (by omega)
      have q1 := ho2.cellAt (k * 3 + 1) (by omega)
      have q2 := ho2.cellAt (k * 3 + 2) (by omega)
      rw [List.getElem?_eq_getElem (by omega)] at q0 q1 q2
      have f0 := ho2.frozenAt (k * 3)
      have f1 := ho2.frozenAt (k * 3 + 1)
      have f2 := ho2.frozenAt (k * 3 + 2)
      clear d0 d1 d2
      go_wp2
      have hb : w.heap.size ≤ g := Nat.le_of_eq HG.out
      go_roundw
      case rel => exact ⟨k + 1, by omega, by go_num, (((hx.trans hx2).setCell hb _).setCell hb _).setCell hb _, _, (((ho2.stored (k * 3) _).1.stored (k * 3 + 1) _).1.stored (k * 3 + 2) _).1, filled_step hf hlt hl⟩
      case measure => simp [intOf]; omega
    · go_wp2
      go_ret
      refine ⟨_, rfl, ?_, hx⟩
      have hl := ho.1
      rw [HG.out, OwnRules, ← filled_end hf (by omega) hl]
      exact ho
theorem toMachine_c (v : Value) (m : MachD) (w : World) (h : Mach w v m) (hn : m.rules.length ≤ 1048576) :
    Calls Tryd.prog 8 #[v] w fun e w' => ∃ rv, e = .returned (.agg #[.int .i64 m.sy, .int .i64 m.st, rv]) ∧ OwnRules w.heap.size w' rv m.rules ∧ Ext w w' := by
  obtain ⟨rv, rfl, hr⟩ := h
  go_enter Tryd.func8, Tryd.ntmps8
  go_wp2_with fail
  refine (toRuleS_c _ _ _ (Rules.ext hr (((Ext.alloc _ _).trans (Ext.alloc _ _)).trans (Ext.alloc _ _))) hn).mono ?_
  rintro e w1 ⟨u, rfl, ho, hx1⟩
  have hX : Ext w w1 := (((Ext.alloc _ _).trans (Ext.alloc _ _)).trans (Ext.alloc _ _)).trans hx1
  have b1 := (((Blk.new _ (w.heap.size + 1) _ _ (by simp)).alloc _).ext hx1)
  have b2 := ((Blk.new _ (w.heap.size + 1 + 1) _ _ (by simp)).ext hx1)
  simp at ho
  obtain ⟨A', c', rfl, _, _⟩ := ho.rules.form
  clear hx1
  generalize hg : w.heap.size = g at *
  have HG := Lib.hid hg
  clear hg hr
  have c1 := b1.cell
  have f1 := b1.frozen
  have c2 := b2.cell
  have f2 := b2.frozen
  go_wp2
  refine bodyPost_ret (v := .agg #[.int .i64 m.sy, .int .i64 m.st, .slice A' m.rules.length c']) (by simp [results, Tryd.results8, go_sem, c1]) rfl ⟨_, rfl, ?_, ?_⟩
  · have hk : ∀ k, (Value.slice A' m.rules.length c').ownBlock = some k → g + 1 + 1 + 1 ≤ k := fun k hk => (ho.lt k hk).1
    have h1 : ∀ k, (Value.slice A' m.rules.length c').ownBlock = some k → k ≠ g + 1 := fun k h => by have := hk k h; omega
    have h2 : ∀ k, (Value.slice A' m.rules.length c').ownBlock = some k → k ≠ g + 1 + 1 := fun k h => by have := hk k h; omega
    exact ownsRow_base (ownsRow_far (ownsRow_far (ownsRow_far (ownsRow_far ho h2 _) h1 _) h1 _) h1 _) (by have := HG.out; omega)
  · have hb : w.heap.size ≤ g + 1 := by have := HG.out; omega
    exact (((hX.setCell (by have := HG.out; simp; omega) _).setCell hb _).setCell hb _).setCell hb _
theorem eqMachine_c (w : World) (u v : Value) (a b : MachD) (ha : Mach w u a) (hb : Mach w v b) :
    Calls Tryd.prog 11 #[u, v] w fun e w' => e = .returned (.bool (decide (a = b))) ∧ Ext w w' := by
  obtain ⟨ra, rfl, ha⟩ := ha
  obtain ⟨rb, rfl, hb⟩ := hb
  have hx0 := (Ext.alloc w (.cells #[.int .i64 a.sy, .int .i64 a.st, ra] 31)).trans (Ext.alloc _ (.cells #[.int .i64 b.sy, .int .i64 b.st, rb] 31))
  obtain ⟨asy, ast, ars⟩ := a
  obtain ⟨bsy, bst, brs⟩ := b
  by_cases h1 : asy = bsy
  · by_cases h2 : ast = bst
    · subst h1 h2
      go_enter Tryd.func11, Tryd.ntmps11
      go_wp2_with fail
      refine (eqRuleS_c _ _ _ _ _ (Rules.ext ha hx0) (Rules.ext hb hx0)).mono ?_
      rintro e w1 ⟨rfl, hx1⟩
      by_cases h3 : ars = brs
      · have H : decide (ars = brs) = true := by simp [h3]
        rw [H]
        go_wp2
        go_ret
        exact ⟨by simp [h3], hx0.trans hx1⟩
      · have H : decide (ars = brs) = false := by simp [h3]
        rw [H]
        go_wp2
        go_ret
        exact ⟨by simp [h3], hx0.trans hx1⟩
    · subst h1
      have h2' : (ast != bst) = true := by simp [h2]
      go_enter Tryd.func11, Tryd.ntmps11
      go_wp2
      go_ret
      exact ⟨by simp, hx0⟩
  · have h1' : (asy != bsy) = true := by simp [h1]
    go_enter Tryd.func11, Tryd.ntmps11
    go_wp2
    go_ret
    exact ⟨by simp, hx0⟩
end Go.Proofs.YtdkdmcaehinkhaaDoor
