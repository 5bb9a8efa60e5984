/- Plain words on the reference's search: how its list grows in memory, and when it ends. -/
import Derived.Test.YtdkdmcaehinkhaaDoorStarts
namespace Go.Proofs.YtdkdmcaehinkhaaDoor
open Go Go.RowKit Go.Proofs
set_option maxHeartbeats 400000
theorem results_tmp4 {fn : Func} {t u v x : Tmp} (h : fn.results = #[.tmp t, .tmp u, .tmp v, .tmp x]) (tmps : Array Value) (P : Program) (w : World) :
    (results fn tmps).run P w = .ok (.tuple #[tmps.getD t undef, tmps.getD u undef, tmps.getD v undef, tmps.getD x undef]) w := by
  simp [results, h]
/-- The list while the rows of another list are taken in. -/
structure GrowInv (B1 : Nat) (w : World) (lv : Value) (list : List (List Int)) (us : List Value) (k : Nat) (nodes : List (List Int)) (nv : Value) (vs : List Value) (wr : World) : Prop where
  rest : Rest w.heap.size B1 0 lv list us nodes nv vs wr
  apart : ∀ (i j : Nat) (u u' : Value) (g : Nat), vs[i]? = some u → vs[j]? = some u' → u.ownBlock = some g → u'.ownBlock = some g → i = j
  old : ∀ (i : Nat) (u : Value) (g : Nat), vs[i]? = some u → u.ownBlock = some g → g < B1 ∨ ∃ j u', j < k ∧ us[j]? = some u' ∧ u'.ownBlock = some g
  outer : nv.ownBlock = none ∨ nv.ownBlock ≠ lv.ownBlock
  ex : Ext w wr
section
variable {B1 : Nat} {w : World} {lv : Value} {list : List (List Int)} {us : List Value} {k : Nat} {nodes : List (List Int)} {nv : Value} {vs : List Value} {wr wr' : World}
theorem GrowInv.ext (h : GrowInv B1 w lv list us k nodes nv vs wr) (he : Ext wr wr') : GrowInv B1 w lv list us k nodes nv vs wr' := ⟨h.rest.ext he, h.apart, h.old, h.outer, h.ex.trans he⟩
theorem GrowInv.rows (h : GrowInv B1 w lv list us k nodes nv vs wr) : OwnIntRows w.heap.size wr nv nodes := ⟨vs, h.rest.own, h.rest.rows, h.apart⟩
theorem GrowInv.skip (h : GrowInv B1 w lv list us k nodes nv vs wr) : GrowInv B1 w lv list us (k + 1) nodes nv vs wr :=
  ⟨h.rest, h.apart, fun i u g a b => by
    rcases h.old i u g a b with c | ⟨j, u', c, d⟩
    · exact .inl c
    · exact .inr ⟨j, u', by omega, d⟩, h.outer, h.ex⟩
theorem GrowInv.start {W : World} (ho : OwnIntRows w.heap.size W nv nodes) (hx : Ext w W) (he : Ext W wr) (u1 : wr.ownsRow W.heap.size 38 1 lv list.length us) (u2 : ∀ i, (h : i < list.length) → ∃ u, us[i]? = some u ∧ OwnInts W.heap.size wr u list[i]) :
    ∃ vs, GrowInv W.heap.size w lv list us 0 nodes nv vs wr := by
  obtain ⟨vs, o1, o2, o3⟩ := ho
  refine ⟨vs, ⟨ownsRow_ext o1 he, fun i hi => by obtain ⟨u, e, hu⟩ := o2 i hi; exact ⟨u, e, hu.ext he⟩, u1, u2⟩, o3, fun i u g hi hg => ?_, ?_, hx.trans he⟩
  · have hl := o1.1
    have hil : i < nodes.length := by have := (List.getElem?_eq_some_iff.1 hi).1; omega
    obtain ⟨u', e, hu'⟩ := o2 i hil
    rw [hi] at e
    injection e with e
    subst e
    exact .inl (hu'.lt g hg).2
  · cases hn : nv.ownBlock with
    | none => exact .inl rfl
    | some g =>
      refine .inr fun he => ?_
      have a1 := (o1.lt g hn).2
      have a2 := (u1.lt g he.symm).1
      omega
theorem GrowInv.added {w4 : World} {o : Obj} {u : Value} {y : List Int} {v' : Value} (hB : w.heap.size ≤ B1) (h : GrowInv B1 w lv list us k nodes nv vs wr)
    (hap : ∀ (i j : Nat) (u u' : Value) (g : Nat), us[i]? = some u → us[j]? = some u' → u.ownBlock = some g → u'.ownBlock = some g → i = j)
    (hu : us[k]? = some u) (hru : OwnInts B1 wr u y) (hlw : ∀ g, lv.ownBlock = some g → g < wr.heap.size)
    (hown : w4.ownsRow w.heap.size 38 1 v' (nodes.length + 1) (vs ++ [u])) (hg : (wr.alloc o).grownBy w4 nv.ownBlock) (hloc : v'.ownBlock = nv.ownBlock ∨ v'.ownBlock = some (wr.alloc o).heap.size) :
    GrowInv B1 w lv list us (k + 1) (nodes ++ [y]) v' (vs ++ [u]) w4 := by
  have hown' := hown
  obtain ⟨A', c', rfl, _, _, _⟩ := (ownsRow_row hown).form
  obtain ⟨g', rfl, hgb, hgl⟩ := own_at hown (by omega)
  have R4 := (h.rest.ext (Ext.alloc wr o)).snoc hB h.outer (hru.ext (Ext.alloc wr o)) hown hg
  have own3 := h.rest.own.alloc o
  have hb4 : Ext w w4 := (h.ex.trans (Ext.alloc wr o)).grown hg (fun b hb => (own3.lt b hb).1)
  have hl := h.rest.own.1
  have hne : ∀ (i : Nat) (u' : Value) (g : Nat), vs[i]? = some u' → u'.ownBlock = some g → u.ownBlock ≠ some g := by
    intro i u' g hi hgu he
    rcases h.old i u' g hi hgu with hlt | ⟨j, u'', hj, hj', hgj⟩
    · have := (hru.lt g he).1
      omega
    · have := hap j k u'' u g hj' hu hgj he
      omega
  refine ⟨R4, apart_snoc (nodes := nodes) (by omega) h.apart hne, ?_, ?_, hb4⟩
  · intro i x g hi hgx
    by_cases hlt : i < vs.length
    · rw [List.getElem?_append_left hlt] at hi
      rcases h.old i x g hi hgx with c | ⟨j, x', c, d⟩
      · exact .inl c
      · exact .inr ⟨j, x', by omega, d⟩
    · rw [List.getElem?_append_right (by omega)] at hi
      have := (List.getElem?_eq_some_iff.1 hi).1
      have e : i - vs.length = 0 := by simp at this; omega
      rw [e] at hi
      simp at hi
      subst hi
      exact .inr ⟨k, u, by omega, hu, hgx⟩
  · rcases hloc with e | e
    · rw [e]; exact h.outer
    · refine .inr fun he => ?_
      have := hlw _ (he ▸ e)
      simp at this
      omega
end
/-- The reference's search stops at the beginning of step k. -/
def stopS (m : MachD) (n : Nat) (bud : Int) (ea : Bool) (k : Nat) : Prop := ((iterS m n k).2 = true ∧ ea = true) ∨ 2000 < (iterS m n k).1.length ∨ (k : Int) = bud
def FindEnds (m : MachD) (n : Nat) (bud : Int) (ea : Bool) (k : Nat) : Prop := (∀ j < k, j < (iterS m n j).1.length ∧ ¬ stopS m n bud ea j) ∧ (¬ k < (iterS m n k).1.length ∨ stopS m n bud ea k)
def FindSRes (w : World) (m : MachD) (n : Nat) (bud : Int) (ea : Bool) (e : Ending) (w' : World) : Prop :=
  ∃ k, FindEnds m n bud ea k ∧ (∃ u, e = .returned (.tuple #[u, .bool (!(iterS m n k).2), .int .i64 (if k < (iterS m n k).1.length then k else (iterS m n k).1.length), .bool (!decide (k < (iterS m n k).1.length) && decide ((iterS m n k).1.length ≤ 2000))]) ∧ OwnIntRows w.heap.size w' u (iterS m n k).1) ∧ Ext w w'
end Go.Proofs.YtdkdmcaehinkhaaDoor
