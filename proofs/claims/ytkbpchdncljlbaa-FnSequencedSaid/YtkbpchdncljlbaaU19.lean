/- Contracts of the program's judgement of tapes.
A row whose block is as it was. No condition. -/
import Derived.Test.YtkbpchdncljlbaaU18
import Derived.Test.YtkbpchdncljlbaaU07
import Derived.Test.YtkbpchdncljlbaaU11
section
set_option linter.unusedVariables false
set_option linter.unusedSimpArgs false
namespace Go.Proofs.Ytkbpchdncljlbaa
open Go Go.RowKit Go.Proofs Go.Maps
set_option maxHeartbeats 400000
set_option maxRecDepth 20000 in
set_option maxHeartbeats 1000000 in
theorem validTape_c (m : MultiD) (mv lv rv : Value) (t : TapeD) (w : World) (hM : Mult w mv m) (hm : multiOk m = true) (hl : Ints w lv t.l) (hr : Ints w rv t.r) :
    Calls Try.prog 60 #[mv, .agg #[lv, rv]] w fun e w' => e = .returned (.bool (tapeOk m t)) ∧ Ext w w' := by
  obtain ⟨rv', rfl, hR⟩ := hM
  obtain ⟨A, cA, rfl, _, _⟩ := hR.form
  obtain ⟨A1, k1, rfl, _, _⟩ := hl.form
  obtain ⟨A2, k2, rfl, _, _⟩ := hr.form
  obtain ⟨_, ⟨s1, s2⟩, _, _, _⟩ := multi_all hm
  obtain ⟨V, hV⟩ : ∃ V, V = (w.alloc (.cells #[.int .i64 m.tp, .int .i64 m.sy, .int .i64 m.st, .slice A m.rules.length cA] 29)).alloc (.cells #[.slice A1 t.l.length k1, .slice A2 t.r.length k2] 42) := ⟨_, rfl⟩
  have hX : Ext w V := by rw [hV]; exact (Ext.alloc _ _).trans (Ext.alloc _ _)
  obtain ⟨g, hg⟩ : ∃ g, w.heap.size = g := ⟨_, rfl⟩
  have bM : Blk V g 29 #[.int .i64 m.tp, .int .i64 m.sy, .int .i64 m.st, .slice A m.rules.length cA] := by rw [hV]; exact (Blk.new _ _ _ _ hg).alloc _
  have bT : Blk V (g + 1) 42 #[.slice A1 t.l.length k1, .slice A2 t.r.length k2] := by rw [hV]; exact Blk.new _ _ _ _ (by simp [hg])
  have m1 := bM.cell 1
  have t0 := bT.cell 0
  have t1 := bT.cell 1
  simp only [List.getElem?_toArray, List.getElem?_cons_zero, List.getElem?_cons_succ] at m1 t0 t1
  have L := validSide_c _ t.l m.sy 200 V (hl.ext hX) (by omega) (by omega)
  have R := validSide_c _ t.r m.sy 200 V (hr.ext hX) (by omega) (by omega)
  have HR : Hid (tapeOk m t = (sideOk t.l m.sy 200 && sideOk t.r m.sy 200)) := rfl
  rw [HR.out]
  go_enter Try.func60, Try.ntmps60
  cases h1 : sideOk t.l m.sy 200 with
  | false =>
    rw [h1] at L
    go_wp2_with fail
    try rw [← hV]
    try rw [hg]
    clear hV h1
    refine L.mono ?_
    rintro e _ ⟨rfl, rfl⟩
    go_wp2_with fail
    go_ret
    exact ⟨rfl, hX⟩
  | true =>
    rw [h1] at L
    generalize sideOk t.r m.sy 200 = b at *
    go_wp2_with fail
    try rw [← hV]
    try rw [hg]
    clear hV h1
    refine L.mono ?_
    rintro e _ ⟨rfl, rfl⟩
    go_wp2_with fail
    refine R.mono ?_
    rintro e _ ⟨rfl, rfl⟩
    go_wp2_with fail
    go_ret
    exact ⟨rfl, hX⟩
end Go.Proofs.Ytkbpchdncljlbaa
end
section
namespace Go.Proofs.Ytkbpchdncljlbaa
open Go Go.RowKit Go.Proofs
theorem own_same {w w' : World} {base : Nat} {e : TypeId} {size n : Nat} {v : Value} {xs : List Value} (h : w.ownsRow base e size v n xs) (hs : ∀ g, v.ownBlock = some g → w'.heap[g]? = w.heap[g]?) : w'.ownsRow base e size v n xs := by
  obtain ⟨h1, h2⟩ := h
  refine ⟨h1, ?_⟩
  rcases h2 with h2 | ⟨g, cap, cur, rfl, hb, hh, r⟩
  · exact .inl h2
  · exact .inr ⟨g, cap, cur, rfl, hb, (hs g rfl).trans hh, r⟩
end Go.Proofs.Ytkbpchdncljlbaa
end
