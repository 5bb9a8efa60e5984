/- Contracts of the copies of a rule with several tapes, the program's and the reference's.
Contract of the program's lists of symbols for which a state has no rule. -/
import Derived.Test.YtkbpchdncljlbaaU24
import Derived.Test.YtkbpchdncljlbaaU29
import Derived.Test.YtkbpchdncljlbaaU15
import Derived.Test.YtkbpchdncljlbaaU14
section
set_option linter.unusedVariables false
set_option linter.unusedSimpArgs false
namespace Go.Proofs.Ytkbpchdncljlbaa
open Go Go.RowKit Go.Proofs Go.Maps
set_option maxHeartbeats 400000
/-- What a copy of a rule gives. -/
def CopyR (base : Nat) (r : MRuleD) (e : Ending) (w' : World) : Prop :=
  ∃ A1 c1 A2 c2 A3 c3, e = .returned (.agg #[.int .i64 r.st, .slice A1 r.rd.length c1, .slice A2 r.wr.length c2, .slice A3 r.mv.length c3, .int .i64 r.nx]) ∧ OwnRul base w' (.agg #[.int .i64 r.st, .slice A1 r.rd.length c1, .slice A2 r.wr.length c2, .slice A3 r.mv.length c3, .int .i64 r.nx]) r
set_option maxRecDepth 20000 in
set_option maxHeartbeats 2000000 in
theorem copyMultiRule_c (base : Nat) (vr vw vm : Value) (r : MRuleD) (w : World) (h1 : OwnInts base w vr r.rd) (h2 : OwnInts base w vw r.wr) (h3 : OwnInts base w vm r.mv) (n1 : r.rd.length ≤ 1000) (n2 : r.wr.length ≤ 1000) (n3 : r.mv.length ≤ 1000) :
    Calls Try.prog 43 #[.agg #[.int .i64 r.st, vr, vw, vm, .int .i64 r.nx]] w fun e w' => CopyR w.heap.size r e w' ∧ Ext w w' := by
  have F1 := h1.flat
  have F2 := h2.flat
  have F3 := h3.flat
  obtain ⟨B1, d1, rfl, _, _⟩ := id h1.ints.form
  obtain ⟨B2, d2, rfl, _, _⟩ := id h2.ints.form
  obtain ⟨B3, d3, rfl, _, _⟩ := id h3.ints.form
  obtain ⟨g, hg⟩ : ∃ g, w.heap.size = g := ⟨_, rfl⟩
  obtain ⟨V, hV⟩ : ∃ V, V = (w.alloc (.cells #[.int .i64 r.st, .slice B1 r.rd.length d1, .slice B2 r.wr.length d2, .slice B3 r.mv.length d3, .int .i64 r.nx] 70)).alloc (.cells #[.int .i64 0, .slice none 0 0, .slice none 0 0, .slice none 0 0, .int .i64 0] 70) := ⟨_, rfl⟩
  have hX : Ext w V := by rw [hV]; exact (Ext.alloc _ _).trans (Ext.alloc _ _)
  have bB : Blk V g 70 #[.int .i64 r.st, .slice B1 r.rd.length d1, .slice B2 r.wr.length d2, .slice B3 r.mv.length d3, .int .i64 r.nx] := by rw [hV]; exact (Blk.new _ _ _ _ hg).alloc _
  have bO : Blk V (g + 1) 70 #[.int .i64 0, .slice none 0 0, .slice none 0 0, .slice none 0 0, .int .i64 0] := by rw [hV]; exact Blk.new _ _ _ _ (by simp [hg])
  have zD := Ext.drew V
  have z0 : V.drew.cell? ⟨g, 0, none⟩ = some (.int .i64 r.st) := bB.cell 0
  have z1 : V.drew.cell? ⟨g, 1, none⟩ = some (.slice B1 r.rd.length d1) := bB.cell 1
  have z2 : V.drew.cell? ⟨g, 2, none⟩ = some (.slice B2 r.wr.length d2) := bB.cell 2
  have z3 : V.drew.cell? ⟨g, 3, none⟩ = some (.slice B3 r.mv.length d3) := bB.cell 3
  have z4 : V.drew.cell? ⟨g, 4, none⟩ = some (.int .i64 r.nx) := bB.cell 4
  have C1 := CloneF_c _ r.rd V.drew (h1.ints.ext (hX.trans zD)) F1 (by omega)
  have C2 := fun W (h : Ext V.drew W) => CloneF_c _ r.wr W (h2.ints.ext ((hX.trans zD).trans h)) F2 (by omega)
  have C3 := fun W (h : Ext V.drew W) => CloneF_c _ r.mv W (h3.ints.ext ((hX.trans zD).trans h)) F3 (by omega)
  have hVs : g ≤ V.drew.heap.size := by rw [← hg]; exact hX.size
  go_enter Try.func43, Try.ntmps43
  go_wp2_with fail
  try rw [← hV]
  try rw [hg]
  clear hV
  refine wp_region_ordT 13 (readsT [0, 1, 2, 3, 5, 6, 8, 9, 11, 12] (.stir 4 (.stir 7 (.stir 10 .done)))) (by kernel_rfl) (by kernel_rfl) (fun _ _ _ _ _ h => h) ?_
  simp only [readsT]
  iterate 10 (refine wpOrdT_read (v := ?_) (by rfl) (Or.inl ⟨by rfl, fun x hx => ?_⟩) ?_; rotate_left; (· have a0 := hx.cell z0; have a1 := hx.cell z1; have a2 := hx.cell z2; have a3 := hx.cell z3; have a4 := hx.cell z4; go_simp; try with_reducible rfl); try simp only [Act.put, List.setIfInBounds_toArray, List.set_cons_zero, List.set_cons_succ])
  refine wpOrdT_stir (by rfl) (fun K hK => ?_)
  go_simp
  go_at_call 28
  refine C1.mono ?_
  rintro e w3 ⟨u, rfl, o3, _, hx3⟩
  obtain ⟨A3, c3, rfl, _, _⟩ := id o3.ints.form
  refine hK _ _ hx3 ?_
  clear hK K C1
  try simp only [Act.put, List.setIfInBounds_toArray, List.set_cons_zero, List.set_cons_succ]
  refine wpOrdT_stir (by rfl) (fun K hK => ?_)
  go_simp
  go_at_call 28
  refine (C2 w3 hx3).mono ?_
  rintro e w4 ⟨u, rfl, o4, _, hx4⟩
  obtain ⟨A4, c4, rfl, _, _⟩ := id o4.ints.form
  refine hK _ _ hx4 ?_
  clear hK K C2
  try simp only [Act.put, List.setIfInBounds_toArray, List.set_cons_zero, List.set_cons_succ]
  refine wpOrdT_stir (by rfl) (fun K hK => ?_)
  go_simp
  go_at_call 28
  refine (C3 w4 (hx3.trans hx4)).mono ?_
  rintro e w5 ⟨u, rfl, o5, _, hx5⟩
  obtain ⟨A5, c5, rfl, _, _⟩ := id o5.ints.form
  refine hK _ _ hx5 ?_
  clear hK K C3
  try simp only [Act.put, List.setIfInBounds_toArray, List.set_cons_zero, List.set_cons_succ]
  refine wpOrdT_done ?_
  try simp only [List.drop_succ_cons, List.drop_zero]
  have hX5 : Ext V w5 := ((zD.trans hx3).trans hx4).trans hx5
  have bO5 := bO.ext hX5
  have ob := bO5.cell
  have of_ := bO5.frozen
  have s3 := hx3.size
  have s4 := hx4.size
  have q3 : OwnInts g w5 (.slice A3 r.rd.length c3) r.rd := ownsRow_base (OwnInts.ext o3 (hx4.trans hx5)) hVs
  have q4 : OwnInts g w5 (.slice A4 r.wr.length c4) r.wr := ownsRow_base (OwnInts.ext o4 hx5) (by omega)
  have q5 : OwnInts g w5 (.slice A5 r.mv.length c5) r.mv := ownsRow_base o5 (by omega)
  have F : ∀ (X : World) {v : Value} {zs : List Int} (i : Nat) (y : Value) {cs : Array Value}, Blk X (g + 1) 70 cs → OwnInts g X v zs → OwnInts g (X.setCell ⟨g + 1, i, none⟩ y) v zs := fun X {v zs} i y {cs} hb o => ownsRow_far o (fun q hq e => by
    have e : q = g + 1 := e
    subst e
    exact blk_ne_row hb o (by decide) hq.symm) y
  have HF : Hid (∀ u0 u1 u2 u3 u4, OwnRul g (((((w5.setCell ⟨g + 1, 0, none⟩ u0).setCell ⟨g + 1, 1, none⟩ u1).setCell ⟨g + 1, 2, none⟩ u2).setCell ⟨g + 1, 3, none⟩ u3).setCell ⟨g + 1, 4, none⟩ u4) (.agg #[.int .i64 r.st, .slice A3 r.rd.length c3, .slice A4 r.wr.length c4, .slice A5 r.mv.length c5, .int .i64 r.nx]) r ∧
      Ext w (((((w5.setCell ⟨g + 1, 0, none⟩ u0).setCell ⟨g + 1, 1, none⟩ u1).setCell ⟨g + 1, 2, none⟩ u2).setCell ⟨g + 1, 3, none⟩ u3).setCell ⟨g + 1, 4, none⟩ u4)) := Lib.hid fun u0 u1 u2 u3 u4 => by
    have e0 := bO5.set_ 0 u0
    have e1 := e0.set_ 1 u1
    have e2 := e1.set_ 2 u2
    have e3 := e2.set_ 3 u3
    have P : ∀ {v : Value} {zs : List Int}, OwnInts g w5 v zs → OwnInts g (((((w5.setCell ⟨g + 1, 0, none⟩ u0).setCell ⟨g + 1, 1, none⟩ u1).setCell ⟨g + 1, 2, none⟩ u2).setCell ⟨g + 1, 3, none⟩ u3).setCell ⟨g + 1, 4, none⟩ u4) v zs := fun o => F _ 4 u4 e3 (F _ 3 u3 e2 (F _ 2 u2 e1 (F _ 1 u1 e0 (F _ 0 u0 bO5 o))))
    exact ⟨⟨_, _, _, rfl, P q3, P q4, P q5⟩, (((((hX.trans hX5).setCell (p := ⟨g + 1, 0, none⟩) (by show w.heap.size ≤ g + 1; omega) u0).setCell (p := ⟨g + 1, 1, none⟩) (by show w.heap.size ≤ g + 1; omega) u1).setCell (p := ⟨g + 1, 2, none⟩) (by show w.heap.size ≤ g + 1; omega) u2).setCell (p := ⟨g + 1, 3, none⟩) (by show w.heap.size ≤ g + 1; omega) u3).setCell (p := ⟨g + 1, 4, none⟩) (by show w.heap.size ≤ g + 1; omega) u4⟩
  have HG := Lib.hid hg
  clear q3 q4 q5 o3 o4 o5 F hx3 hx4 hx5 z0 z1 z2 z3 z4 zD bB bO bO5 hX5 h1 h2 h3 F1 F2 F3
  generalize hl1 : r.rd.length = l1 at *
  generalize hl2 : r.wr.length = l2 at *
  generalize hl3 : r.mv.length = l3 at *
  have HL : Hid (r.rd.length = l1 ∧ r.wr.length = l2 ∧ r.mv.length = l3) := Lib.hid ⟨hl1, hl2, hl3⟩
  clear hl1 hl2 hl3
  go_wp2_with fail
  refine bodyPost_ret (v := .agg #[.int .i64 r.st, .slice A3 l1 c3, .slice A4 l2 c4, .slice A5 l3 c5, .int .i64 r.nx]) (by simp [results, Try.results43, go_sem, ob]) rfl ⟨⟨A3, c3, A4, c4, A5, c5, ?_, ?_⟩, (HF.out _ _ _ _ _).2⟩
  · rw [HL.out.1, HL.out.2.1, HL.out.2.2]
  · rw [HG.out, HL.out.1, HL.out.2.1, HL.out.2.2]
    exact (HF.out _ _ _ _ _).1
end Go.Proofs.Ytkbpchdncljlbaa
end
section
set_option linter.unusedVariables false
set_option linter.unusedSimpArgs false
namespace Go.Proofs.Ytkbpchdncljlbaa
open Go Go.RowKit Go.Proofs Go.Maps
set_option maxHeartbeats 400000
theorem rowInfoK : (Try.prog.info? 24).map (fun i => (i.zero, i.size, i.bytes)) = some (some (.slice none 0 0), 1, 24) := by kernel_rfl
/-- A row of rows: the outer one and the inner ones in blocks of their own. -/
def OwnLL (b1 b2 : Nat) (w : World) (v : Value) (xss : List (List Int)) : Prop := ∃ cl : List Value, w.ownsRow b1 24 1 v xss.length cl ∧ ∀ i, (h : i < xss.length) → ∃ u, cl[i]? = some u ∧ OwnInts b2 w u xss[i]
theorem OwnLL.ext {b1 b2 : Nat} {w w' : World} {v : Value} {xss : List (List Int)} (h : OwnLL b1 b2 w v xss) (he : Ext w w') : OwnLL b1 b2 w' v xss := by
  obtain ⟨cl, h1, h2⟩ := h
  exact ⟨cl, ownsRow_ext h1 he, fun i hi => by obtain ⟨u, e, o⟩ := h2 i hi; exact ⟨u, e, OwnInts.ext o he⟩⟩
theorem OwnLL.low {b1 b2 b1' b2' : Nat} {w : World} {v : Value} {xss : List (List Int)} (h : OwnLL b1 b2 w v xss) (h1 : b1' ≤ b1) (h2 : b2' ≤ b2) : OwnLL b1' b2' w v xss := by
  obtain ⟨cl, a, b⟩ := h
  exact ⟨cl, ownsRow_base a h1, fun i hi => by obtain ⟨u, e, o⟩ := b i hi; exact ⟨u, e, ownsRow_base o h2⟩⟩
theorem OwnLL.form {b1 b2 : Nat} {w : World} {v : Value} {xss : List (List Int)} (h : OwnLL b1 b2 w v xss) : ∃ A c, v = .slice A xss.length c ∧ xss.length ≤ c ∧ c ≤ 9223372036854775807 := by
  obtain ⟨cl, h1, h2⟩ := h
  obtain ⟨A, c, e, a, b, _⟩ := (ownsRow_row h1).form
  exact ⟨A, c, e, a, b⟩
/-- While the lists of symbols are made. -/
structure HrS (w0 : World) (base bm bs bb bt bl bf gb gmap : Nat) (m : MultiD) (rv : Value) (q : Int) (N : Nat) (buf : List Int) (lst : List (List Int)) (v : Value) (W : World) : Prop where
  ext : Ext w0 W
  cm : Blk W bm 29 #[.int .i64 m.tp, .int .i64 m.sy, .int .i64 m.st, rv]
  cs : Blk W bs 2 #[.int .i64 q]
  cb : Blk W bb 24 #[.slice (some ⟨gb, 0, none⟩) N N]
  ct : Blk W bt 98 #[.map (some gmap)]
  cl : Blk W bl 37 #[v]
  cf : Blk W bf 111 #[.func (.func 77) #[] #[.pointer (some ⟨bm, 0, none⟩), .pointer (some ⟨bs, 0, none⟩), .pointer (some ⟨bb, 0, none⟩), .pointer (some ⟨bt, 0, none⟩), .pointer (some ⟨bl, 0, none⟩), .pointer (some ⟨bf, 0, none⟩)]]
  bufB : Blk W gb 2 (ivs buf).toArray
  len : buf.length = N
  ll : OwnLL w0.heap.size base W v lst
  nb : v.ownBlock ≠ some bb
  tbl : Tbl Try.prog 103 2 rdE W gmap m.rules.length (tblM m.rules m.rules.length)
  bas : base ≤ W.heap.size
section
variable {w0 : World} {base bm bs bb bt bl bf gb gmap : Nat} {m : MultiD} {rv : Value} {q : Int} {N : Nat} {buf : List Int} {lst : List (List Int)} {v : Value} {W W' : World}
theorem HrS.ext' (h : HrS w0 base bm bs bb bt bl bf gb gmap m rv q N buf lst v W) (he : Ext W W') : HrS w0 base bm bs bb bt bl bf gb gmap m rv q N buf lst v W' :=
  ⟨h.ext.trans he, h.cm.ext he, h.cs.ext he, h.cb.ext he, h.ct.ext he, h.cl.ext he, h.cf.ext he, h.bufB.ext he, h.len, h.ll.ext he, h.nb, h.tbl.ext he, Nat.le_trans h.bas he.size⟩
/-- A place of the buffer is written. -/
theorem HrS.store (h : HrS w0 base bm bs bb bt bl bf gb gmap m rv q N buf lst v W) (h1 : gb < base) (h2 : w0.heap.size ≤ gb) (h3 : bs ≠ gb) (k : Nat) (z : Int) : HrS w0 base bm bs bb bt bl bf gb gmap m rv q N (buf.set k z) lst v (W.setCell ⟨gb, k, none⟩ (.int .i64 z)) := by
  obtain ⟨cl, hl1, hl2⟩ := h.ll
  have n1 : bm ≠ gb := blk_ne h.cm h.bufB (by decide)
  have n2 : bb ≠ gb := blk_ne h.cb h.bufB (by decide)
  have n3 : bt ≠ gb := blk_ne h.ct h.bufB (by decide)
  have n4 : bl ≠ gb := blk_ne h.cl h.bufB (by decide)
  have n5 : bf ≠ gb := blk_ne h.cf h.bufB (by decide)
  refine ⟨h.ext.setCell (p := ⟨gb, k, none⟩) h2 _, h.cm.far (p := ⟨gb, k, none⟩) n1 _, h.cs.far (p := ⟨gb, k, none⟩) h3 _, h.cb.far (p := ⟨gb, k, none⟩) n2 _, h.ct.far (p := ⟨gb, k, none⟩) n3 _, h.cl.far (p := ⟨gb, k, none⟩) n4 _, h.cf.far (p := ⟨gb, k, none⟩) n5 _, ?_, by rw [List.length_set]; exact h.len, ?_, h.nb, h.tbl.setCell (h.tbl.ne_blk h.bufB) _, by simpa using h.bas⟩
  · have := h.bufB.set_ k (.int .i64 z)
    have e : (ivs buf).toArray.setIfInBounds k (Value.int .i64 z) = (ivs (buf.set k z)).toArray := by
      apply Array.ext'
      simp [ivs, List.map_set]
    rwa [e] at this
  · exact ⟨cl, ownsRow_far hl1 (fun p hp e => by
      have e : p = gb := e
      subst e
      exact blk_ne_row h.bufB hl1 (by decide) hp.symm) _, fun i hi => by
      obtain ⟨u, e, o⟩ := hl2 i hi
      exact ⟨u, e, ownsRow_far o (fun p hp e => by have := (o.lt p hp).1; have e : p = gb := e; omega) _⟩⟩
/-- One more list. -/
theorem HrS.push (h : HrS w0 base bm bs bb bt bl bf gb gmap m rv q N buf lst v W) (h2 : w0.heap.size ≤ bl) (hbb : bb < base) (cl : List Value) (u v' : Value) (xs : List Int) (h1 : W.ownsRow w0.heap.size 24 1 v lst.length cl) (hi : ∀ i, (h : i < lst.length) → ∃ u, cl[i]? = some u ∧ OwnInts base W u lst[i]) (ou : OwnInts base W u xs)
    (hown : W'.ownsRow w0.heap.size 24 1 v' (lst.length + 1) (cl ++ [u])) (hg : W.grownBy W' v.ownBlock) (hv : v'.ownBlock = v.ownBlock ∨ v'.ownBlock = some W.heap.size) :
    HrS w0 base bm bs bb bt bl bf gb gmap m rv q N buf (lst ++ [xs]) v' (W'.setCell ⟨bl, 0, none⟩ v') ∧ Blk W' bl 37 #[v] := by
  have hcb : Blk W' bb 24 #[.slice (some ⟨gb, 0, none⟩) N N] := (hg.block bb h.cb.lt (fun e => h.nb e.symm)).trans h.cb
  have b1 := Blk.apart h.cm h1 (by decide) hg
  have b2 := Blk.apart h.cs h1 (by decide) hg
  have b4 := Blk.apart h.ct h1 (by decide) hg
  have b5 := Blk.apart h.cl h1 (by decide) hg
  have b6 := Blk.apart h.cf h1 (by decide) hg
  have b7 := Blk.apart h.bufB h1 (by decide) hg
  have hx : Ext w0 W' := h.ext.grown hg (fun p hp => (h1.lt p hp).1)
  have ht := h.tbl.kept hg (h.tbl.ne_row h1)
  have n1 : bm ≠ bl := blk_ne b1 b5 (by decide)
  have n2 : bs ≠ bl := blk_ne b2 b5 (by decide)
  have n3 : bb ≠ bl := blk_ne hcb b5 (by decide)
  have n4 : bt ≠ bl := blk_ne b4 b5 (by decide)
  have n6 : bf ≠ bl := blk_ne b6 b5 (by decide)
  have n7 : gb ≠ bl := blk_ne b7 b5 (by decide)
  have hk : ∀ {z : Value} {zs : List Int}, OwnInts base W z zs → OwnInts base W' z zs := fun {z zs} o => own_same o fun p hp => by
    rcases o.2 with ⟨rfl, _⟩ | ⟨g', cap, cur, rfl, _, hh, _⟩
    · simp [Value.ownBlock] at hp
    · simp [Value.ownBlock] at hp
      subst hp
      have hb : Blk W g' 2 cur := hh
      exact hg.block g' hb.lt (blk_ne_row hb h1 (by decide))
  have hf : ∀ {z : Value} {zs : List Int}, OwnInts base W' z zs → OwnInts base (W'.setCell ⟨bl, 0, none⟩ v') z zs := fun {z zs} o => ownsRow_far o (fun p hp e => by
    have e : p = bl := e
    subst e
    exact blk_ne_row b5 o (by decide) hp.symm) _
  refine ⟨⟨hx.setCell (p := ⟨bl, 0, none⟩) h2 _, b1.far (p := ⟨bl, 0, none⟩) n1 _, b2.far (p := ⟨bl, 0, none⟩) n2 _, hcb.far (p := ⟨bl, 0, none⟩) n3 _, b4.far (p := ⟨bl, 0, none⟩) n4 _, b5.set_ 0 v', b6.far (p := ⟨bl, 0, none⟩) n6 _, b7.far (p := ⟨bl, 0, none⟩) n7 _, h.len, ⟨cl ++ [u], ?_, fun i hi' => ?_⟩, ?_, ht.setCell (ht.ne_blk b5) _, ?_⟩, b5⟩
  · rw [List.length_append]
    exact ownsRow_far hown (fun p hp e => by
      have e : p = bl := e
      subst e
      exact blk_ne_row b5 hown (by decide) hp.symm) _
  · have hcl : cl.length = lst.length := by have := h1.1; omega
    by_cases e : i < lst.length
    · obtain ⟨x, ex, ox⟩ := hi i e
      rw [List.getElem_append_left e, List.getElem?_append_left (by omega)]
      exact ⟨x, ex, hf (hk ox)⟩
    · have e2 : i = lst.length := by simp at hi'; omega
      subst e2
      refine ⟨u, by rw [← hcl]; simp, ?_⟩
      rw [List.getElem_append_right (Nat.le_refl _)]
      simpa using hf (hk ou)
  · rcases hv with hv | hv
    · rw [hv]; exact h.nb
    · rw [hv]
      intro e
      injection e with e
      have := h.bas
      omega
  · have := h.bas
    have := hg.size
    simp
    omega
end
/-- The lists with a beginning, for which there is no rule. -/
def restL (rs : List MRuleD) (q : Int) (pre : List Int) (xss : List (List Int)) : List (List Int) := (xss.map (pre ++ ·)).filter (noRuleB rs q)
theorem restL_app (rs : List MRuleD) (q : Int) (pre : List Int) (a b : List (List Int)) : restL rs q pre (a ++ b) = restL rs q pre a ++ restL rs q pre b := by simp [restL]
theorem restL_cons (rs : List MRuleD) (q : Int) (pre : List Int) (a : Int) (xss : List (List Int)) : restL rs q pre (xss.map fun xs => a :: xs) = restL rs q (pre ++ [a]) xss := by
  unfold restL
  rw [List.map_map]
  congr 1
  apply List.map_congr_left
  intro x _
  simp
theorem key_small2 {q : Int} {xs : List Int} {sy st : Int} (hq : 0 ≤ q ∧ q ≤ 16) (h : ∀ z ∈ xs, 0 ≤ z ∧ z ≤ 3) : smallZ (key3 q xs).1 ∧ smallZ (key3 q xs).2.1 ∧ smallZ (key3 q xs).2.2.1 ∧ smallZ (key3 q xs).2.2.2 := by
  have key : ∀ i, smallZ (xs.getD i 0) := fun i => by
    by_cases hi : i < xs.length
    · have := h _ (List.getElem_mem hi)
      rw [List.getD_eq_getElem?_getD, List.getElem?_eq_getElem hi]
      show smallZ xs[i]
      unfold smallZ
      omega
    · rw [List.getD_eq_getElem?_getD, List.getElem?_eq_none (by omega)]
      show smallZ 0
      unfold smallZ
      omega
  exact ⟨by show smallZ q; unfold smallZ; omega, key 0, key 1, key 2⟩
/-- What the inner function does. -/
def FillC (w0 : World) (base bm bs bb bt bl bf gb gmap : Nat) (m : MultiD) (rv : Value) (q : Int) (N k d : Nat) : Prop :=
  ∀ (W : World) (buf : List Int) (lst : List (List Int)) (v : Value), HrS w0 base bm bs bb bt bl bf gb gmap m rv q N buf lst v W → (∀ z ∈ buf.take k, 0 ≤ z ∧ z < m.sy) → lst.length + 27 ≤ 1000 * (k + 2) →
    Calls Try.prog 77 #[.int .i64 (k : Int), .pointer (some ⟨bm, 0, none⟩), .pointer (some ⟨bs, 0, none⟩), .pointer (some ⟨bb, 0, none⟩), .pointer (some ⟨bt, 0, none⟩), .pointer (some ⟨bl, 0, none⟩), .pointer (some ⟨bf, 0, none⟩)] W fun e w' =>
      e = .returned (.tuple #[]) ∧ ∃ buf' v', buf'.take k = buf.take k ∧ HrS w0 base bm bs bb bt bl bf gb gmap m rv q N buf' (lst ++ restL m.rules q (buf.take k) (allS m.sy.toNat d)) v' w'
set_option maxRecDepth 20000 in
set_option maxHeartbeats 8000000 in
theorem fill_leaf (w0 : World) (base bm bs bb bt bl bf gb gmap : Nat) (m : MultiD) (rv : Value) (q : Int) (N : Nat) (hm : multiOk m = true) (hN : (N : Int) = m.tp) (hq : 0 ≤ q ∧ q ≤ m.st - 1) (hgb : gb < base) (hbl : w0.heap.size ≤ bl) (hbb : bb < base) :
    FillC w0 base bm bs bb bt bl bf gb gmap m rv q N N 0 := by
  intro W buf lst v h hpre hlen
  obtain ⟨i0, hi0, hz0, hz1, hz2⟩ := info_parts rowInfoK
  obtain ⟨⟨t1, t2⟩, ⟨y1, y2⟩, ⟨s1, s2⟩, _, _⟩ := multi_all hm
  have hbl' : buf.take N = buf := List.take_of_length_le (by rw [h.len]; exact Nat.le_refl _)
  rw [hbl'] at hpre ⊢
  have HTK := Lib.hid hbl'
  clear hbl'
  obtain ⟨g, hg⟩ : ∃ g, W.heap.size = g := ⟨_, rfl⟩
  have m0 := h.cm.cell 0
  have s0 := h.cs.cell 0
  simp only [List.getElem?_toArray, List.getElem?_cons_zero, List.getElem?_cons_succ] at m0 s0
  obtain ⟨V, hV⟩ : ∃ V, V = W.alloc (.cells #[.int .i64 q, .int .i64 0, .int .i64 0, .int .i64 0] 103) := ⟨_, rfl⟩
  have hX : Ext W V := by rw [hV]; exact Ext.alloc _ _
  have bX : Blk V g 103 #[.int .i64 q, .int .i64 0, .int .i64 0, .int .i64 0] := by rw [hV]; exact Blk.new _ _ _ _ hg
  have hV1 := h.ext' hX
  have heq : ((N : Int) == m.tp) = true := by simp [hN]
  have HN : Hid ((N : Int) = m.tp) := hN
  clear hN
  have hbm : bm < W.heap.size := h.cm.lt
  have hbsl : bs < W.heap.size := h.cs.lt
  have zc : V.drew.cell? ⟨bb, 0, none⟩ = some (.slice (some ⟨gb, 0, none⟩) N N) := hV1.cb.cell 0
  have hls := h.len
  have HLEN : Hid (buf.length = N) := hls
  have HQ : Hid (0 ≤ q ∧ q ≤ m.st - 1) := hq
  go_enter Try.func77, Try.ntmps77
  go_wp2_with fail
  try rw [← hV]
  try rw [hg]
  clear hV hls
  have HV1 := Lib.hid h
  have HXV := Lib.hid hX
  refine wp_region_ordT 3 (readsT [0, 1, 2] .done) (by kernel_rfl) (by kernel_rfl) (fun _ _ _ _ _ h => h) ?_
  simp only [readsT]
  iterate 3 (refine wpOrdT_read (v := ?_) (by rfl) (Or.inl ⟨by rfl, fun x hx => ?_⟩) ?_; rotate_left; (· have a1 := hx.cell zc; go_simp; try with_reducible rfl); try simp only [Act.put, List.setIfInBounds_toArray, List.set_cons_zero, List.set_cons_succ])
  refine wpOrdT_done ?_
  try simp only [List.drop_succ_cons, List.drop_zero]
  have bXd := bX.drew
  have hXd := hX.trans (Ext.drew V)
  have h1d := h.ext' hXd
  have jd0 : OwnInts 0 V.drew (.slice (some ⟨gb, 0, none⟩) buf.length N) buf := by
    have := ownsRow_blk (base := 0) 1 N h1d.bufB (Nat.zero_le _) (by simp [ivs, HLEN.out]) (by have := HN.out; omega)
    unfold OwnInts
    rw [HLEN.out]
    simpa using this
  have hlr : (buf.length : Int) = 2 ∨ (buf.length : Int) = 3 := by have := HN.out; have := HLEN.out; omega
  have hgm : base ≤ g := by rw [← hg]; exact h.bas
  clear hX bX hV1 zc m0 s0
  generalize V.drew = X at *
  obtain ⟨w3, n3, hcp, bX3, hg3⟩ := copy_read bXd jd0.ints hlr
  have hX3 : Ext W w3 := hXd.grown hg3 (fun b hb => by injection hb with hb; omega)
  have h3 := h.ext' hX3
  rw [HLEN.out] at hcp
  obtain ⟨y, hy⟩ : ∃ y, key3 q buf = y := ⟨_, rfl⟩
  have hks := key_small2 (q := q) (xs := buf) (sy := m.sy) (st := m.st) (by omega) (fun z hz => by have := hpre z hz; omega)
  have hkey := rdKey (key3 q buf) hks.1 hks.2.1 hks.2.2.1 hks.2.2.2
  have lk := h3.tbl.lookup2 rdTy (key3 q buf) hkey
  have htb : tblM m.rules m.rules.length (key3 q buf) = Option.map (fun i : Nat => (i : Int)) (findM m.rules (key3 q buf) m.rules.length) := rfl
  rw [htb] at lk
  have HNR : Hid (noRuleB m.rules q buf = (findM m.rules (key3 q buf) m.rules.length).isNone) := rfl
  have b0 := bX3.cell 0
  have b1 := bX3.cell 1
  have b2 := bX3.cell 2
  have b3 := bX3.cell 3
  simp only [List.getElem?_toArray, List.getElem?_cons_zero, List.getElem?_cons_succ] at b0 b1 b2 b3
  have c4 : w3.cell? ⟨bt, 0, none⟩ = some (.map (some gmap)) := h3.ct.cell 0
  rw [hy] at lk b0 b1 b2 b3
  simp only [rdE] at lk
  have HR0 : Hid (restL m.rules q buf (allS m.sy.toNat 0) = if noRuleB m.rules q buf then [buf] else []) := by
    unfold Hid restL allS
    simp only [List.map_cons, List.map_nil, List.append_nil]
    cases hb : noRuleB m.rules q buf <;> simp [List.filter, hb]
  clear hks hkey bXd h1d jd0 hlr hg3 bX3 htb hXd
  rw [hy] at HNR
  cases hf : findM m.rules y m.rules.length with
  | some i =>
    rw [hf] at HNR lk
    simp only [Option.map_some, Option.getD_some, Option.isSome_some] at lk
    have HF : Hid (lst ++ restL m.rules q buf (allS m.sy.toNat 0) = lst) := Lib.hid (by rw [HR0.out, HNR.out]; simp)
    have H3 := Lib.hid h3
    clear h3 hf hX3 hy
    go_wp2_with (at_builtin; refine Lib.wpList_copy_run _ rfl _ _ 24 24 rfl _ _ rfl rfl hcp ?_)
    go_wp2_with fail
    refine bodyPost_ret (results_none rfl _ _ _) rfl ⟨rfl, buf, v, HTK.out, ?_⟩
    rw [HF.out]
    exact H3.out
  | none =>
    rw [hf] at HNR lk
    simp only [Option.map_none, Option.getD_none, Option.isSome_none] at lk
    have HF : Hid (lst ++ restL m.rules q buf (allS m.sy.toNat 0) = lst ++ [buf]) := Lib.hid (by rw [HR0.out, HNR.out]; simp)
    clear hf hX3 hy
    go_wp2_with (at_builtin; refine Lib.wpList_copy_run _ rfl _ _ 24 24 rfl _ _ rfl rfl hcp ?_)
    have zl : w3.drew.cell? ⟨bl, 0, none⟩ = some v := h3.cl.cell 0
    have zb : w3.drew.cell? ⟨bb, 0, none⟩ = some (.slice (some ⟨gb, 0, none⟩) N N) := h3.cb.cell 0
    obtain ⟨cl, hl1, hl2⟩ := h3.ll
    obtain ⟨Av, cv, rfl, _, _, _⟩ := (ownsRow_row hl1).form
    have zD := Ext.drew w3
    have jd0 : OwnInts 0 w3.drew (.slice (some ⟨gb, 0, none⟩) buf.length N) buf := by
      have := ownsRow_blk (base := 0) 1 N (h3.bufB.ext zD) (Nat.zero_le _) (by simp [ivs, HLEN.out]) (by have := HN.out; omega)
      unfold OwnInts
      rw [HLEN.out]
      simpa using this
    have CL := CloneF_c _ buf w3.drew jd0.ints jd0.flat (by have := HLEN.out; have := HN.out; omega)
    rw [HLEN.out] at CL
    clear hcp lk b0 b1 b2 b3 c4 jd0
    go_wp2_with fail
    refine wp_region_ordT 4 (readsT [0, 1] (.stir 2 (.stir 3 .done))) (by kernel_rfl) (by kernel_rfl) (fun _ _ _ _ _ h => h) ?_
    simp only [readsT]
    iterate 2 (refine wpOrdT_read (v := ?_) (by rfl) (Or.inl ⟨by rfl, fun x hx => ?_⟩) ?_; rotate_left; (· have a1 := hx.cell zl; have a2 := hx.cell zb; go_simp; try with_reducible rfl); try simp only [Act.put, List.setIfInBounds_toArray, List.set_cons_zero, List.set_cons_succ])
    refine wpOrdT_stir (by rfl) (fun K hK => ?_)
    go_simp
    go_at_call 28
    refine CL.mono ?_
    rintro e w4 ⟨u, rfl, ou, _, hx4⟩
    obtain ⟨Au, cu, rfl, _, _⟩ := id ou.ints.form
    refine hK _ _ hx4 ?_
    clear hK K CL
    try simp only [Act.put, List.setIfInBounds_toArray, List.set_cons_zero, List.set_cons_succ]
    refine wpOrdT_stir (by rfl) (fun K hK => ?_)
    go_simp
    have eA := Ext.alloc w4 (.cells #[.slice Au buf.length cu] 24)
    refine hK _ _ eA ?_
    clear hK K
    try simp only [Act.put, List.setIfInBounds_toArray, List.set_cons_zero, List.set_cons_succ]
    refine wpOrdT_done ?_
    try simp only [List.drop_succ_cons, List.drop_zero]
    have hX5 := (zD.trans hx4).trans eA
    have h5 := h3.ext' hX5
    have ho5 := ownsRow_ext hl1 hX5
    have hb5 : base ≤ w3.drew.heap.size := h3.bas
    have hw5 : w0.heap.size ≤ (w4.alloc (.cells #[.slice Au buf.length cu] 24)).heap.size := h5.ext.size
    have hs5 : (w4.alloc (.cells #[.slice Au buf.length cu] 24)).heap.size = w4.heap.size + 1 := by simp
    have hl5 : lst.length ≤ 5000 := by have := HN.out; omega
    go_wp2_with (at_builtin; refine wpList_append_own_at _ rfl _ _ 37 rfl w0.heap.size 24 i0 (.slice none 0 0) 1 24 Try.underlying37 hi0 hz0 hz1 hz2 rfl (by decide) _ _ cl rfl ho5 ⟨w4.heap.size, 0, none⟩ 1 1 [.slice Au buf.length cu] rfl rfl (cell_one_new _ _ _) ?c2 ?c3 ?c4 ?c5 ?_)
    case c2 => intro u hu; simp at hu; subst hu; cases Au <;> rfl
    case c3 => unfold maxLen; omega
    case c4 => omega
    case c5 => exact hw5
    intro v' w6 hown6 hg6 _ hloc
    have hloc' : v'.ownBlock = (Value.slice Av lst.length cv).ownBlock ∨ v'.ownBlock = some (w4.alloc (.cells #[.slice Au buf.length cu] 24)).heap.size := by first | exact hloc | (rw [hs5]; exact hloc)
    obtain ⟨A6, c6, rfl, _, _, _⟩ := (ownsRow_row hown6).form
    obtain ⟨s6, b6⟩ := h5.push hbl hbb cl (.slice Au buf.length cu) _ buf ho5 (fun i hi => by
      obtain ⟨x, ex, ox⟩ := hl2 i hi
      exact ⟨x, ex, OwnInts.ext ox hX5⟩) (OwnInts.ext (ownsRow_base ou hb5) eA) hown6 hg6 hloc'
    have HS6 := Lib.hid s6
    have cb := b6.cell
    have cf := b6.frozen
    clear h3 h5 ho5 hown6 hg6 hloc hloc' s6 b6 hX5 eA hx4 hl1 hl2 ou zD
    go_wp2_with fail
    refine bodyPost_ret (results_none rfl _ _ _) rfl ⟨rfl, buf, .slice A6 (lst.length + 1) c6, HTK.out, ?_⟩
    rw [HF.out]
    exact HS6.out
theorem allS_len (sy : Nat) : ∀ n, (allS sy n).length = sy ^ n
  | 0 => rfl
  | n + 1 => by
    unfold allS
    rw [List.length_flatMap]
    simp only [List.length_map, allS_len sy n, List.map_const', List.sum_replicate_nat, List.length_range]
    rw [Nat.pow_succ, Nat.mul_comm]
theorem restL_len {rs : List MRuleD} {q : Int} {pre : List Int} {sy d j : Nat} (hd : d ≤ 2) (hs : sy ≤ 3) (hj : j ≤ 3) : (restL rs q pre ((List.range j).flatMap fun (a : Nat) => (allS sy d).map fun xs => (a : Int) :: xs)).length ≤ 27 := by
  refine Nat.le_trans (List.length_filter_le _ _) ?_
  rw [List.length_map, List.length_flatMap]
  simp only [List.length_map, allS_len, List.map_const', List.sum_replicate_nat, List.length_range]
  have h1 : sy ^ d ≤ 9 := by
    have hd' : d = 0 ∨ d = 1 ∨ d = 2 := by omega
    have hs' : sy = 0 ∨ sy = 1 ∨ sy = 2 ∨ sy = 3 := by omega
    rcases hd' with rfl | rfl | rfl <;> rcases hs' with rfl | rfl | rfl | rfl <;> decide
  calc j * sy ^ d ≤ 3 * 9 := Nat.mul_le_mul hj h1
    _ = 27 := rfl
theorem htk_app {pre : List Int} {k : Nat} {z : Int} (h : pre.length = k) : (pre ++ [z])[k]? = some z := by
  rw [List.getElem?_append_right (by omega), h, Nat.sub_self]
  rfl
def cellI : Option Value → Int
  | some (.int _ z) => z
  | _ => 0
theorem take_set_succ {xs : List Int} {k : Nat} (h : k < xs.length) (z : Int) : (xs.set k z).take (k + 1) = xs.take k ++ [z] := by
  rw [List.take_succ_eq_append_getElem (by simpa using h)]
  simp [List.take_set_of_le]
set_option maxRecDepth 20000 in
set_option maxHeartbeats 8000000 in
theorem fill_node (w0 : World) (base bm bs bb bt bl bf gb gmap : Nat) (m : MultiD) (rv : Value) (q : Int) (N k d : Nat) (hm : multiOk m = true) (hN : (N : Int) = m.tp) (hkN : k + (d + 1) = N) (hgb : gb < base) (hwg : w0.heap.size ≤ gb) (hbs : bs ≠ gb)
    (IH : FillC w0 base bm bs bb bt bl bf gb gmap m rv q N (k + 1) d) : FillC w0 base bm bs bb bt bl bf gb gmap m rv q N k (d + 1) := by
  intro W buf lst v h hpre hlen
  obtain ⟨⟨t1, t2⟩, ⟨y1, y2⟩, ⟨s1, s2⟩, _, _⟩ := multi_all hm
  have hk : k < N := by omega
  have hN3 : N ≤ 3 := by omega
  have m0 := h.cm.cell 0
  simp only [List.getElem?_toArray, List.getElem?_cons_zero, List.getElem?_cons_succ] at m0
  have hne : ((k : Int) == m.tp) = false := by rw [beq_eq_false_iff_ne]; omega
  have HN : Hid ((N : Int) = m.tp) := hN
  have HKN : Hid (k + (d + 1) = N) := hkN
  have c3 : W.cell? ⟨bb, 0, none⟩ = some (.slice (some ⟨gb, 0, none⟩) N N) := h.cb.cell 0
  have HLB := h.len
  obtain ⟨zk, ck⟩ : ∃ z, W.cell? ⟨gb, k, none⟩ = some z := ⟨_, by
    rw [h.bufB.cell]
    simp [ivs, HLB, hk]
    rfl⟩
  have cf := h.bufB.frozen
  have h1 := h.store hgb hwg hbs k 0
  have hget : (buf.set k ((0 : Nat) : Int))[k]? = some ((0 : Nat) : Int) := by rw [List.getElem?_set_self (by omega)]
  have st0 : HrS w0 base bm bs bb bt bl bf gb gmap m rv q N (buf.set k ((0 : Nat) : Int)) (lst ++ restL m.rules q (buf.take k) ((List.range 0).flatMap fun (a : Nat) => (allS m.sy.toNat d).map fun xs => (a : Int) :: xs)) v (W.setCell ⟨gb, k, none⟩ (.int .i64 0)) := by
    simpa [restL] using h1
  obtain ⟨pre, hpr⟩ : ∃ p, buf.take k = p := ⟨_, rfl⟩
  have hpl : pre.length = k := by rw [← hpr]; simp [HLB]; omega
  have hg0 : (buf.set k ((0 : Nat) : Int)).take k = pre := by rw [List.take_set_of_le (Nat.le_refl _)]; exact hpr
  rw [hpr] at st0 hpre ⊢
  have HPL := Lib.hid hpl
  generalize buf.set k ((0 : Nat) : Int) = buf0 at *
  clear hN hkN hpl hpr h1 HLB
  go_enter Try.func77, Try.ntmps77
  go_wp2_with fail
  go_loopw [] (fun wr => ∃ (j : Nat) (bj : List Int) (vj : Value), (j : Int) ≤ m.sy ∧ Hid (bj.take k = pre) ∧ bj[k]? = some (j : Int) ∧ HrS w0 base bm bs bb bt bl bf gb gmap m rv q N bj (lst ++ restL m.rules q pre ((List.range j).flatMap fun (a : Nat) => (allS m.sy.toNat d).map fun xs => (a : Int) :: xs)) vj wr) (fun wr => (m.sy - cellI (wr.cell? ⟨gb, k, none⟩)).toNat)
  case atStart => exact ⟨0, buf0, v, by omega, hg0, hget, st0⟩
  case round =>
    obtain ⟨j, bj, vj, hj, HT, hgj, st⟩ := hrel
    have c3 : wr.cell? ⟨bb, 0, none⟩ = some (.slice (some ⟨gb, 0, none⟩) N N) := st.cb.cell 0
    have ck : wr.cell? ⟨gb, k, none⟩ = some (.int .i64 (j : Int)) := by
      rw [st.bufB.cell]
      simp [ivs, hgj]
    have c1 : wr.cell? ⟨bm, 1, none⟩ = some (.int .i64 m.sy) := st.cm.cell 1
    have x3 := cellR c3
    have xk := cellR ck
    have x1 := cellR c1
    have HCK := Lib.hid ck
    clear c3 ck c1 st0
    by_cases hlt : (j : Int) < m.sy
    · go_wp2_with fail
      refine wp_region_ext (by kernel_rfl) (by kernel_rfl) ?_
      repeat (go_big_quiet_step (fail))
      refine wpQuiet_nil ?_
      intro w2 hx2
      clear x3 xk x1
      have s2' := st.ext' hx2
      have cfn : w2.cell? ⟨bf, 0, none⟩ = some (.func (.func 77) #[] #[.pointer (some ⟨bm, 0, none⟩), .pointer (some ⟨bs, 0, none⟩), .pointer (some ⟨bb, 0, none⟩), .pointer (some ⟨bt, 0, none⟩), .pointer (some ⟨bl, 0, none⟩), .pointer (some ⟨bf, 0, none⟩)]) := s2'.cf.cell 0
      have hkj : k < bj.length := by rw [st.len]; exact hk
      have htk : bj.take (k + 1) = pre ++ [(j : Int)] := by
        rw [List.take_succ_eq_append_getElem hkj, HT.out]
        rw [List.getElem?_eq_getElem hkj] at hgj
        injection hgj with hgj
        rw [hgj]
      have HLL : Hid ((restL m.rules q pre ((List.range j).flatMap fun (a : Nat) => (allS m.sy.toNat d).map fun xs => (a : Int) :: xs)).length ≤ 27) := Lib.hid (restL_len (by have := HKN.out; omega) (by omega) (by omega))
      have FI := IH w2 bj _ vj s2' (by
        rw [htk]
        intro z hz
        rcases List.mem_append.1 hz with hz | hz
        · exact hpre z hz
        · rw [List.mem_singleton.1 hz]; omega) (by rw [List.length_append]; have := HLL.out; omega)
      rw [htk] at FI
      have hk1 : IntKind.i64.wrap ((k : Int) + 1) = ((k + 1 : Nat) : Int) := by rw [show (k : Int) + 1 = ((k + 1 : Nat) : Int) by omega]; exact IntWalk.i64_in _ (by omega)
      have HBK : Hid (bj[k]? = some (j : Int)) := hgj
      have HTK := Lib.hid htk
      clear st s2' hgj htk
      go_wp2_with fail
      refine FI.mono ?_
      rintro e w3 ⟨rfl, buf', v', ht', st3⟩
      have hk3 : k < buf'.length := by rw [st3.len]; exact hk
      have hb3 : buf'[k]? = some (j : Int) := by
        have e1 : buf'[k]? = (buf'.take (k + 1))[k]? := (List.getElem?_take_of_lt (by omega)).symm
        rw [e1, ht', htk_app HPL.out]
      have ht3 : buf'.take k = pre := by
        have := congrArg (List.take k) ht'
        rw [List.take_take, Nat.min_eq_left (by omega)] at this
        rw [this, List.take_append_of_le_length (by rw [HPL.out]; exact Nat.le_refl _), List.take_of_length_le (by rw [HPL.out]; exact Nat.le_refl _)]
      have c3 : w3.cell? ⟨bb, 0, none⟩ = some (.slice (some ⟨gb, 0, none⟩) N N) := st3.cb.cell 0
      have ck : w3.cell? ⟨gb, k, none⟩ = some (.int .i64 (j : Int)) := by
        rw [st3.bufB.cell]
        simp [ivs, hb3]
      have cf3 := st3.bufB.frozen
      have hwj : IntKind.i64.wrap ((j : Int) + 1) = ((j + 1 : Nat) : Int) := by rw [show (j : Int) + 1 = ((j + 1 : Nat) : Int) by omega]; exact IntWalk.i64_in _ (by omega)
      have s4 := st3.store hgb hwg hbs k ((j + 1 : Nat) : Int)
      have HL : Hid (lst ++ restL m.rules q pre ((List.range j).flatMap fun (a : Nat) => (allS m.sy.toNat d).map fun xs => (a : Int) :: xs) ++ restL m.rules q (pre ++ [(j : Int)]) (allS m.sy.toNat d) = lst ++ restL m.rules q pre ((List.range (j + 1)).flatMap fun (a : Nat) => (allS m.sy.toNat d).map fun xs => (a : Int) :: xs)) := Lib.hid (by
        rw [List.range_succ, List.flatMap_append, restL_app, List.append_assoc]
        congr 2
        simp [restL_cons])
      rw [HL.out] at s4
      have HS4 := Lib.hid s4
      have HB4 : Hid ((buf'.set k ((j + 1 : Nat) : Int))[k]? = some ((j + 1 : Nat) : Int)) := Lib.hid (by rw [List.getElem?_set_self hk3])
      have HT4 : Hid ((buf'.set k ((j + 1 : Nat) : Int)).take k = pre) := Lib.hid (by rw [List.take_set_of_le (Nat.le_refl _)]; exact ht3)
      have HC4 : Hid ((w3.setCell ⟨gb, k, none⟩ (.int .i64 ((j + 1 : Nat) : Int))).cell? ⟨gb, k, none⟩ = some (.int .i64 ((j + 1 : Nat) : Int))) := Lib.hid (World.cell?_setCell_same _ _ _ ck)
      clear FI st3 s4 ht' hb3 ht3 hk1
      go_wp2_with fail
      go_roundw
      case rel => exact ⟨j + 1, _, v', by omega, HT4.out, HB4.out, HS4.out⟩
      case measure =>
        have e := HC4.out
        rw [show ((j + 1 : Nat) : Int) = (j : Int) + 1 by omega] at e
        rw [e, HCK.out]
        simp only [cellI]
        omega
    · have hjs : m.sy.toNat = j := by omega
      have HE : Hid (lst ++ restL m.rules q pre ((List.range j).flatMap fun (a : Nat) => (allS m.sy.toNat d).map fun xs => (a : Int) :: xs) = lst ++ restL m.rules q pre (allS m.sy.toNat (d + 1))) := Lib.hid (by
        rw [← hjs]
        rfl)
      have HS := Lib.hid st
      clear st hgj hjs
      go_wp2_with fail
      refine wp_region_ext (by kernel_rfl) (by kernel_rfl) ?_
      repeat (go_big_quiet_step (fail))
      refine wpQuiet_nil ?_
      intro w2 hx2
      clear x3 xk x1
      go_wp2_with fail
      first
        | refine bodyPost_end (results_none rfl _ _ _) rfl ⟨rfl, bj, vj, HT.out, ?_⟩
        | refine bodyPost_ret (results_none rfl _ _ _) rfl ⟨rfl, bj, vj, HT.out, ?_⟩
      rw [← HE.out]
      exact HS.out.ext' hx2
/-- The inner function at each depth. -/
theorem fill_all (w0 : World) (base bm bs bb bt bl bf gb gmap : Nat) (m : MultiD) (rv : Value) (q : Int) (N : Nat) (hm : multiOk m = true) (hN : (N : Int) = m.tp) (hq : 0 ≤ q ∧ q ≤ m.st - 1) (hgb : gb < base) (hwg : w0.heap.size ≤ gb) (hbs : bs ≠ gb) (hbl : w0.heap.size ≤ bl) (hbb : bb < base) :
    ∀ d k, k + d = N → FillC w0 base bm bs bb bt bl bf gb gmap m rv q N k d
  | 0, k, h => by
    obtain rfl : k = N := by omega
    exact fill_leaf w0 base bm bs bb bt bl bf gb gmap m rv q k hm hN hq hgb hbl hbb
  | d + 1, k, h => fill_node w0 base bm bs bb bt bl bf gb gmap m rv q N k d hm hN h hgb hwg hbs (fill_all w0 base bm bs bb bt bl bf gb gmap m rv q N hm hN hq hgb hwg hbs hbl hbb d (k + 1) (by omega))
end Go.Proofs.Ytkbpchdncljlbaa
end
