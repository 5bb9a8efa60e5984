/- Contracts: the proof with some parts, and whether it is valid. Written by mkcxa.py.
Contract: the proof with some parts, where it is valid.
As OrdT, with a fork of three. No program stands here. -/
import Derived.Test.YtapjofbjedpmgaaGreatC41
import Derived.Test.YtapjofbjedpmgaaGreatC29
import Derived.Test.YtapjofbjedpmgaaGreatC07
section
set_option linter.unusedSimpArgs false
set_option linter.unusedVariables false
namespace Go.Proofs.YtapjofbjedpmgaaGreat
open Go Go.RowKit Go.Proofs
set_option maxHeartbeats 400000
/-- A proof in blocks of its own. -/
def PrfO (base : Nat) (w : World) (v : Value) (p : ProofD) : Prop := ∃ An cn Aw cw, v = .agg #[.int .i64 p.k, .slice An p.ns.length cn, .slice Aw p.ws.length cw] ∧ OwnInts base w (.slice An p.ns.length cn) p.ns ∧ OwnLists base w (.slice Aw p.ws.length cw) p.ws
theorem PrfO.l {base : Nat} {w : World} {v : Value} {p : ProofD} (h : PrfO base w v p) : PrfL w v p := by
  obtain ⟨An, cn, Aw, cw, e, a, b⟩ := h
  exact ⟨_, _, e, a.ints, b.lists⟩
theorem PrfO.ext {base : Nat} {w w' : World} {v : Value} {p : ProofD} (h : PrfO base w v p) (he : Ext w w') : PrfO base w' v p := by
  obtain ⟨An, cn, Aw, cw, e, a, b⟩ := h
  exact ⟨An, cn, Aw, cw, e, a.ext he, b.ext he⟩
theorem PrfO.base0 {base b' : Nat} {w : World} {v : Value} {p : ProofD} (h : PrfO base w v p) (hb : b' ≤ base) : PrfO b' w v p := by
  obtain ⟨An, cn, Aw, cw, e, a, b⟩ := h
  exact ⟨An, cn, Aw, cw, e, ownsRow_base a hb, b.base0 hb⟩
theorem PrfO.farX {base g : Nat} {w : World} {v : Value} {p : ProofD} {t : TypeId} {cs : Array Value} (h : PrfO base w v p) (hb : Blk w g t cs) (h1 : t ≠ 27) (h2 : t ≠ 2) (i : Nat) (x : Value) : PrfO base (w.setCell ⟨g, i, none⟩ x) v p := by
  obtain ⟨An, cn, Aw, cw, e, a, b⟩ := h
  exact ⟨An, cn, Aw, cw, e, ownsRow_far a (own_far_blk a hb h2) _, b.farX hb h1 h2 i x⟩
/-- A proof that is being made. -/
structure PrB (base : Nat) (W : World) (gp : Nat) (ns : List Int) (ws : List (List Int)) (nv wv : Value) : Prop where
  blk : Blk W gp 34 #[.int .i64 8, nv, wv]
  own : OwnInts base W nv ns
  some_ : nv.ownBlock ≠ none
  ws : ∃ vs, W.ownsRow base 27 1 wv ws.length vs ∧ ∀ i, (h : i < ws.length) → ∃ u, vs[i]? = some u ∧ OwnInts base W u ws[i] ∧ u.ownBlock ≠ nv.ownBlock
  low : base ≤ gp
theorem PrB.ext {base gp : Nat} {W W' : World} {ns : List Int} {ws : List (List Int)} {nv wv : Value} (h : PrB base W gp ns ws nv wv) (he : Ext W W') : PrB base W' gp ns ws nv wv := by
  obtain ⟨vs, a, b⟩ := h.ws
  exact ⟨h.blk.ext he, h.own.ext he, h.some_, ⟨vs, ownsRow_ext a he, fun i hi => by obtain ⟨u, x, y, z⟩ := b i hi; exact ⟨u, x, y.ext he, z⟩⟩, h.low⟩
theorem PrB.own_lists {base gp : Nat} {W : World} {ns : List Int} {ws : List (List Int)} {nv wv : Value} (h : PrB base W gp ns ws nv wv) : OwnLists base W wv ws := by
  obtain ⟨vs, a, b⟩ := h.ws
  exact ⟨vs, a, fun i hi => by obtain ⟨u, x, y, _⟩ := b i hi; exact ⟨u, x, y⟩⟩
/-- A number is appended and stored. -/
theorem PrB.num {base gp : Nat} {W W1 : World} {ns : List Int} {z : Int} {ws : List (List Int)} {nv wv v' : Value} (h : PrB base W gp ns ws nv wv) (ho : OwnInts base W1 v' (ns ++ [z])) (hg : W.grownBy W1 nv.ownBlock) (hl : v'.ownBlock = nv.ownBlock ∨ v'.ownBlock = some W.heap.size) :
    PrB base (W1.setCell ⟨gp, 1, none⟩ v') gp (ns ++ [z]) ws v' wv := by
  obtain ⟨vs, a, b⟩ := h.ws
  have hb1 := h.blk.kept hg (blk_ne_row h.blk h.own (by decide))
  have ha1 : W1.ownsRow base 27 1 wv ws.length vs := World.ownsRow.kept a hg (own_ne a h.own (by decide))
  refine ⟨by simpa using hb1.set_ 1 v', ownsRow_far ho (own_far_blk ho hb1 (by decide)) _, ?_, ⟨vs, ownsRow_far ha1 (own_far_blk ha1 hb1 (by decide)) _, fun i hi => ?_⟩, h.low⟩
  · rcases hl with e | e
    · rw [e]; exact h.some_
    · rw [e]; simp
  · obtain ⟨u, x, y, z⟩ := b i hi
    have y1 : OwnInts base W1 u ws[i] := own_same y (fun k hk => hg.block k (y.lt k hk).2 (fun e => z (hk.trans e)))
    refine ⟨u, x, ownsRow_far y1 (own_far_blk y1 hb1 (by decide)) _, fun e => ?_⟩
    rcases hl with e2 | e2
    · exact z (e.trans e2)
    · rw [e2] at e
      have := (y.lt _ e).2
      omega
/-- A word is appended and stored. -/
theorem PrB.word {base gp : Nat} {W W1 : World} {ns : List Int} {y : List Int} {ws : List (List Int)} {nv wv v' u : Value} {vs : List Value} (h : PrB base W gp ns ws nv wv) (a : W.ownsRow base 27 1 wv ws.length vs) (b : ∀ i, (h : i < ws.length) → ∃ u, vs[i]? = some u ∧ OwnInts base W u ws[i] ∧ u.ownBlock ≠ nv.ownBlock)
    (hu : OwnInts base W u y) (hne : u.ownBlock ≠ nv.ownBlock) (ho : W1.ownsRow base 27 1 v' (ws.length + 1) (vs ++ [u])) (hg : W.grownBy W1 wv.ownBlock) :
    PrB base (W1.setCell ⟨gp, 2, none⟩ v') gp ns (ws ++ [y]) nv v' := by
  have hb1 := h.blk.kept hg (blk_ne_row h.blk a (by decide))
  have keep : ∀ {x : Value} {zs : List Int}, OwnInts base W x zs → OwnInts base (W1.setCell ⟨gp, 2, none⟩ v') x zs := fun hx => by
    have h1 : OwnInts base W1 _ _ := World.ownsRow.kept hx hg (own_ne hx a (by decide))
    exact ownsRow_far h1 (own_far_blk h1 hb1 (by decide)) _
  refine ⟨by simpa using hb1.set_ 2 v', keep h.own, h.some_, ⟨vs ++ [u], ?_, fun i hi => ?_⟩, h.low⟩
  · rw [List.length_append]
    exact ownsRow_far ho (own_far_blk ho hb1 (by decide)) _
  · have hl : vs.length = ws.length := by have := a.1; omega
    by_cases hlt : i < ws.length
    · obtain ⟨x, e, hx, hz⟩ := b i hlt
      exact ⟨x, by rw [List.getElem?_append_left (by omega), e], by rw [List.getElem_append_left hlt]; exact keep hx, hz⟩
    · have hie : i = ws.length := by simp at hi; omega
      subst hie
      exact ⟨u, by rw [List.getElem?_append_right (by omega)]; simp [hl], by simpa using keep hu, hne⟩
/-- The first stage. -/
structure PrI (w0 W : World) (gp gn : Nat) (n a b : Nat) : Prop where
  blk : Blk W gp 34 #[.int .i64 8, .slice (some ⟨gn, 0, none⟩) 3 3, .slice none 0 0]
  own : OwnInts w0.heap.size W (.slice (some ⟨gn, 0, none⟩) 3 3) [(n : Int), (a : Int), (b : Int)]
  ext : Ext w0 W
  low : w0.heap.size ≤ gp
theorem PrI.put {w0 V : World} {gp gn n a b : Nat} (hb : Blk V gp 34 #[.int .i64 0, .slice none 0 0, .slice none 0 0]) (hn : Blk V gn 2 #[.int .i64 (n : Int), .int .i64 (a : Int), .int .i64 (b : Int)]) (hx : Ext w0 V) (h1 : w0.heap.size ≤ gp) (h2 : w0.heap.size ≤ gn) :
    PrI w0 (((V.setCell ⟨gp, 0, none⟩ (.int .i64 8)).setCell ⟨gp, 1, none⟩ (.slice (some ⟨gn, 0, none⟩) 3 3)).setCell ⟨gp, 2, none⟩ (.slice none 0 0)) gp gn n a b := by
  have b0 := hb.set_ 0 (.int .i64 8)
  have b1 := b0.set_ 1 (.slice (some ⟨gn, 0, none⟩) 3 3)
  have b2 := b1.set_ 2 (.slice none 0 0)
  have o : OwnInts w0.heap.size V (.slice (some ⟨gn, 0, none⟩) 3 3) [(n : Int), (a : Int), (b : Int)] := ⟨rfl, .inr ⟨gn, 3, _, rfl, h2, hn, by simp, by unfold maxLen; omega, rfl, rfl⟩⟩
  refine ⟨by simpa using b2, ownsRow_far (ownsRow_far (ownsRow_far o (own_far_blk o hb (by decide)) _) (own_far_blk o hb (by decide)) _) (own_far_blk o hb (by decide)) _, ?_, h1⟩
  exact ((hx.setCell (p := ⟨gp, 0, none⟩) h1 _).setCell (p := ⟨gp, 1, none⟩) h1 _).setCell (p := ⟨gp, 2, none⟩) h1 _
set_option maxRecDepth 200000 in
set_option maxHeartbeats 8000000 in
theorem proof_c (v : Value) (s : SetsD) (w : World) (h : SetsV w v s) (hl : s.l.length ≤ 900 ∧ s.r.length ≤ 900 ∧ s.c.length ≤ 3000) (h0 : 0 < s.l.length ∧ 0 < s.r.length) (hz : (∀ x ∈ s.l, x.length ≤ 10) ∧ (∀ x ∈ s.r, x.length ≤ 10) ∧ ∀ x ∈ s.c, 2 ≤ x.length ∧ x.length ≤ 10) :
    Calls Tryz.prog 91 #[v] w fun e w' => ∃ u, e = .returned u ∧ PrfO w.heap.size w' u (proofX s) ∧ Ext w w' := by
  obtain ⟨i0, hi, hz0, hz1, hz2⟩ := info_parts intInfo
  obtain ⟨r0i, hri, rz0, rz1, rz2⟩ := info_parts rowInfo
  obtain ⟨lv, rv, cv, rfl, kl, kr, kc⟩ := h
  obtain ⟨Al, cl, rfl, _, _⟩ := id kl.form
  obtain ⟨Ar, cr, rfl, _, _⟩ := id kr.form
  obtain ⟨Ac, cc, rfl, _, _⟩ := id kc.form
  obtain ⟨W, hW⟩ : ∃ W, W = (w.alloc (.cells #[.int .i64 (s.n : Int), .slice Al s.l.length cl, .slice Ar s.r.length cr, .slice Ac s.c.length cc] 58)).alloc (.cells #[.int .i64 0, .slice none 0 0, .slice none 0 0] 34) := ⟨_, rfl⟩
  obtain ⟨g, hg⟩ : ∃ g, w.heap.size = g := ⟨_, rfl⟩
  have hX : Ext w W := by rw [hW]; exact (Ext.alloc _ _).trans (Ext.alloc _ _)
  have bS : Blk W g 58 #[.int .i64 (s.n : Int), .slice Al s.l.length cl, .slice Ar s.r.length cr, .slice Ac s.c.length cc] := by rw [hW]; exact (Blk.new _ _ _ _ hg).alloc _
  have bO : Blk W (g + 1) 34 #[.int .i64 0, .slice none 0 0, .slice none 0 0] := by rw [hW]; exact Blk.new _ _ _ _ (by simp [hg])
  have e0 := bS.cell 0
  have e1 := bS.cell 1
  have e2 := bS.cell 2
  have e3 := bS.cell 3
  simp only [List.getElem?_toArray, List.getElem?_cons_zero, List.getElem?_cons_succ] at e0 e1 e2 e3
  have HH := Lib.hid (And.intro hX (And.intro bS (And.intro bO (And.intro (kl.ext hX) (And.intro (kr.ext hX) (And.intro (kc.ext hX) hg))))))
  have HL := Lib.hid (And.intro hl (And.intro h0 hz))
  obtain ⟨sn, hsn⟩ : ∃ q, s.n = q := ⟨_, rfl⟩
  obtain ⟨na, hna⟩ : ∃ q, s.l.length = q := ⟨_, rfl⟩
  obtain ⟨nb, hnb⟩ : ∃ q, s.r.length = q := ⟨_, rfl⟩
  obtain ⟨nc, hnc⟩ : ∃ q, s.c.length = q := ⟨_, rfl⟩
  rw [hsn] at e0 hW ⊢
  rw [hna] at e1 hW ⊢
  rw [hnb] at e2 hW ⊢
  rw [hnc] at e3 hW ⊢
  have HN := Lib.hid (And.intro hsn (And.intro hna (And.intro hnb hnc)))
  have hnc3 : nc ≤ 3000 := by omega
  clear hX bS bO kl kr kc hl h0 hz hsn hna hnb hnc
  go_enter Tryz.func91, Tryz.ntmps91
  go_upto_region 1 with fail
  try rw [← hW]
  try rw [hg]
  clear hW hg
  go_cut [3] (fun u wx => ∃ gp gn, u = .pointer (some ⟨gp, 0, none⟩) ∧ PrI W wx gp gn sn na nb)
  case first =>
    refine wp_region_ordT 11 (readsT [0, 1, 2, 3, 5, 6] (.fork 4 (.fork 7 (.fork 8 (readsT [9] (.stir 10 .done)) 10 (.stir 8 (readsT [9] .done))) 10 (.stir 7 (.stir 8 (readsT [9] .done)))) 10 (.stir 4 (.stir 7 (.stir 8 (readsT [9] .done)))))) (by kernel_rfl) (by kernel_rfl) (fun _ _ _ _ _ h => h) ?_
    simp only [readsT]
    iterate 6 (refine wpOrdT_read (v := ?_) (by rfl) (Or.inl ⟨by rfl, fun x hx => ?_⟩) ?_; rotate_left; (· have hx' : Ext W x := (Ext.drew W).trans hx; have e0 := hx'.cell e0; have e1 := hx'.cell e1; have e2 := hx'.cell e2; go_simp; try with_reducible rfl); try simp only [Act.put, List.setIfInBounds_toArray, List.set_cons_zero, List.set_cons_succ])
    have hxd : Ext W W.drew := Ext.drew W
    generalize W.drew = w0 at *
    clear e0 e1 e2 e3
    refine wpOrdT_forks (by rfl) (by rfl) (fun K hK => ?_) (fun K hK => ?_)
    · go_simp
      go_at_call 87
      with_reducible refine (sizeLL_c Al na cl w0).mono ?_
      rintro e v0 ⟨rfl, hww⟩
      subst hww
      refine hK _ _ _ (fun _ hx => hx) (Ext.refl w0) ?_
      clear hK K
      try simp only [Act.put, List.setIfInBounds_toArray, List.set_cons_zero, List.set_cons_succ]
      refine wpOrdT_forks (by rfl) (by rfl) (fun K hK => ?_) (fun K hK => ?_)
      · go_simp
        go_at_call 87
        with_reducible refine (sizeLL_c Ar nb cr w0).mono ?_
        rintro e v0 ⟨rfl, hww⟩
        subst hww
        refine hK _ _ _ (fun _ hx => hx) (Ext.refl w0) ?_
        clear hK K
        try simp only [Act.put, List.setIfInBounds_toArray, List.set_cons_zero, List.set_cons_succ]
        refine wpOrdT_forks (by rfl) (by rfl) (fun K hK => ?_) (fun K hK => ?_)
        · go_simp
          obtain ⟨v0, hv0⟩ : ∃ W', w0.alloc (.cells #[.int .i64 (sn : Int), .int .i64 (na : Int), .int .i64 (nb : Int)] 2) = W' := ⟨_, rfl⟩
          have x0 : Ext w0 v0 := by rw [← hv0]; exact Ext.alloc _ _
          obtain ⟨gn, hgn⟩ : ∃ q, w0.heap.size = q := ⟨_, rfl⟩
          have bn : Blk v0 gn 2 #[.int .i64 (sn : Int), .int .i64 (na : Int), .int .i64 (nb : Int)] := by rw [← hv0]; exact Blk.new _ _ _ _ hgn
          have lgn : W.heap.size ≤ gn := by have := (hxd.trans (Ext.refl w0)).size; omega
          rw [hv0]
          try rw [hgn]
          clear hv0 hgn
          refine hK _ _ _ (fun _ hx => hx) ((Ext.refl w0).trans x0) ?_
          clear hK K
          try simp only [Act.put, List.setIfInBounds_toArray, List.set_cons_zero, List.set_cons_succ]
          refine wpOrdT_read (v := .agg #[.int .i64 8, .slice (some ⟨gn, 0, none⟩) 3 3, .slice none 0 0]) (by rfl) (Or.inl ⟨by rfl, fun x hx => by go_simp⟩) ?_
          try simp only [Act.put, List.setIfInBounds_toArray, List.set_cons_zero, List.set_cons_succ]
          refine wpOrdT_keep (by rfl) (fun K hK => ?_)
          go_simp
          obtain ⟨v1, hv1⟩ : ∃ W', v0.alloc (.cells #[.int .i64 0, .slice none 0 0, .slice none 0 0] 34) = W' := ⟨_, rfl⟩
          have x1 : Ext v0 v1 := by rw [← hv1]; exact Ext.alloc _ _
          obtain ⟨gp, hgp⟩ : ∃ q, v0.heap.size = q := ⟨_, rfl⟩
          have bp : Blk v1 gp 34 #[.int .i64 0, .slice none 0 0, .slice none 0 0] := by rw [← hv1]; exact Blk.new _ _ _ _ hgp
          have lgp : W.heap.size ≤ gp := by have := (hxd.trans ((Ext.refl w0).trans x0)).size; omega
          rw [hv1]
          try rw [hgp]
          clear hv1 hgp
          refine hK _ _ (((Ext.refl w0).trans x0).trans x1) ?_
          clear hK K
          try simp only [Act.put, List.setIfInBounds_toArray, List.set_cons_zero, List.set_cons_succ]
          refine wpOrdT_done ?_
          try simp only [List.drop_succ_cons, List.drop_zero]
          have BP := bp
          have HP := Lib.hid (PrI.put BP (bn.ext x1) (hxd.trans (((Ext.refl w0).trans x0).trans x1)) lgp lgn)
          have z0 := BP.cell 0
          have f0 := BP.frozen 0
          have z1 := BP.cell 1
          have f1 := BP.frozen 1
          have z2 := BP.cell 2
          have f2 := BP.frozen 2
          simp only [List.getElem?_toArray, List.getElem?_cons_zero, List.getElem?_cons_succ] at z0 z1 z2
          clear BP bp bn hxd x0 x1
          go_wp2_with fail
          go_meet
          exact ⟨gp, gn, rfl, HP.out⟩
        · go_simp
          obtain ⟨v0, hv0⟩ : ∃ W', w0.alloc (.cells #[.int .i64 0, .slice none 0 0, .slice none 0 0] 34) = W' := ⟨_, rfl⟩
          have x0 : Ext w0 v0 := by rw [← hv0]; exact Ext.alloc _ _
          obtain ⟨gp, hgp⟩ : ∃ q, w0.heap.size = q := ⟨_, rfl⟩
          have bp : Blk v0 gp 34 #[.int .i64 0, .slice none 0 0, .slice none 0 0] := by rw [← hv0]; exact Blk.new _ _ _ _ hgp
          have lgp : W.heap.size ≤ gp := by have := (hxd.trans (Ext.refl w0)).size; omega
          rw [hv0]
          try rw [hgp]
          clear hv0 hgp
          refine hK _ _ _ (fun _ hx => hx) ((Ext.refl w0).trans x0) ?_
          clear hK K
          try simp only [Act.put, List.setIfInBounds_toArray, List.set_cons_zero, List.set_cons_succ]
          refine wpOrdT_keep (by rfl) (fun K hK => ?_)
          go_simp
          obtain ⟨v1, hv1⟩ : ∃ W', v0.alloc (.cells #[.int .i64 (sn : Int), .int .i64 (na : Int), .int .i64 (nb : Int)] 2) = W' := ⟨_, rfl⟩
          have x1 : Ext v0 v1 := by rw [← hv1]; exact Ext.alloc _ _
          obtain ⟨gn, hgn⟩ : ∃ q, v0.heap.size = q := ⟨_, rfl⟩
          have bn : Blk v1 gn 2 #[.int .i64 (sn : Int), .int .i64 (na : Int), .int .i64 (nb : Int)] := by rw [← hv1]; exact Blk.new _ _ _ _ hgn
          have lgn : W.heap.size ≤ gn := by have := (hxd.trans ((Ext.refl w0).trans x0)).size; omega
          rw [hv1]
          try rw [hgn]
          clear hv1 hgn
          refine hK _ _ (((Ext.refl w0).trans x0).trans x1) ?_
          clear hK K
          try simp only [Act.put, List.setIfInBounds_toArray, List.set_cons_zero, List.set_cons_succ]
          refine wpOrdT_read (v := .agg #[.int .i64 8, .slice (some ⟨gn, 0, none⟩) 3 3, .slice none 0 0]) (by rfl) (Or.inl ⟨by rfl, fun x hx => by go_simp⟩) ?_
          try simp only [Act.put, List.setIfInBounds_toArray, List.set_cons_zero, List.set_cons_succ]
          refine wpOrdT_done ?_
          try simp only [List.drop_succ_cons, List.drop_zero]
          have BP := (bp.ext x1)
          have HP := Lib.hid (PrI.put BP bn (hxd.trans (((Ext.refl w0).trans x0).trans x1)) lgp lgn)
          have z0 := BP.cell 0
          have f0 := BP.frozen 0
          have z1 := BP.cell 1
          have f1 := BP.frozen 1
          have z2 := BP.cell 2
          have f2 := BP.frozen 2
          simp only [List.getElem?_toArray, List.getElem?_cons_zero, List.getElem?_cons_succ] at z0 z1 z2
          clear BP bp bn hxd x0 x1
          go_wp2_with fail
          go_meet
          exact ⟨gp, gn, rfl, HP.out⟩
      · go_simp
        obtain ⟨v0, hv0⟩ : ∃ W', w0.alloc (.cells #[.int .i64 0, .slice none 0 0, .slice none 0 0] 34) = W' := ⟨_, rfl⟩
        have x0 : Ext w0 v0 := by rw [← hv0]; exact Ext.alloc _ _
        obtain ⟨gp, hgp⟩ : ∃ q, w0.heap.size = q := ⟨_, rfl⟩
        have bp : Blk v0 gp 34 #[.int .i64 0, .slice none 0 0, .slice none 0 0] := by rw [← hv0]; exact Blk.new _ _ _ _ hgp
        have lgp : W.heap.size ≤ gp := by have := (hxd.trans (Ext.refl w0)).size; omega
        rw [hv0]
        try rw [hgp]
        clear hv0 hgp
        refine hK _ _ _ (fun _ hx => hx) ((Ext.refl w0).trans x0) ?_
        clear hK K
        try simp only [Act.put, List.setIfInBounds_toArray, List.set_cons_zero, List.set_cons_succ]
        refine wpOrdT_keep (by rfl) (fun K hK => ?_)
        go_simp
        go_at_call 87
        with_reducible refine (sizeLL_c Ar nb cr v0).mono ?_
        rintro e v1 ⟨rfl, hww⟩
        subst hww
        refine hK _ _ ((Ext.refl w0).trans x0) ?_
        clear hK K
        try simp only [Act.put, List.setIfInBounds_toArray, List.set_cons_zero, List.set_cons_succ]
        refine wpOrdT_keep (by rfl) (fun K hK => ?_)
        go_simp
        obtain ⟨v1, hv1⟩ : ∃ W', v0.alloc (.cells #[.int .i64 (sn : Int), .int .i64 (na : Int), .int .i64 (nb : Int)] 2) = W' := ⟨_, rfl⟩
        have x1 : Ext v0 v1 := by rw [← hv1]; exact Ext.alloc _ _
        obtain ⟨gn, hgn⟩ : ∃ q, v0.heap.size = q := ⟨_, rfl⟩
        have bn : Blk v1 gn 2 #[.int .i64 (sn : Int), .int .i64 (na : Int), .int .i64 (nb : Int)] := by rw [← hv1]; exact Blk.new _ _ _ _ hgn
        have lgn : W.heap.size ≤ gn := by have := (hxd.trans ((Ext.refl w0).trans x0)).size; omega
        rw [hv1]
        try rw [hgn]
        clear hv1 hgn
        refine hK _ _ (((Ext.refl w0).trans x0).trans x1) ?_
        clear hK K
        try simp only [Act.put, List.setIfInBounds_toArray, List.set_cons_zero, List.set_cons_succ]
        refine wpOrdT_read (v := .agg #[.int .i64 8, .slice (some ⟨gn, 0, none⟩) 3 3, .slice none 0 0]) (by rfl) (Or.inl ⟨by rfl, fun x hx => by go_simp⟩) ?_
        try simp only [Act.put, List.setIfInBounds_toArray, List.set_cons_zero, List.set_cons_succ]
        refine wpOrdT_done ?_
        try simp only [List.drop_succ_cons, List.drop_zero]
        have BP := (bp.ext x1)
        have HP := Lib.hid (PrI.put BP bn (hxd.trans (((Ext.refl w0).trans x0).trans x1)) lgp lgn)
        have z0 := BP.cell 0
        have f0 := BP.frozen 0
        have z1 := BP.cell 1
        have f1 := BP.frozen 1
        have z2 := BP.cell 2
        have f2 := BP.frozen 2
        simp only [List.getElem?_toArray, List.getElem?_cons_zero, List.getElem?_cons_succ] at z0 z1 z2
        clear BP bp bn hxd x0 x1
        go_wp2_with fail
        go_meet
        exact ⟨gp, gn, rfl, HP.out⟩
    · go_simp
      obtain ⟨v0, hv0⟩ : ∃ W', w0.alloc (.cells #[.int .i64 0, .slice none 0 0, .slice none 0 0] 34) = W' := ⟨_, rfl⟩
      have x0 : Ext w0 v0 := by rw [← hv0]; exact Ext.alloc _ _
      obtain ⟨gp, hgp⟩ : ∃ q, w0.heap.size = q := ⟨_, rfl⟩
      have bp : Blk v0 gp 34 #[.int .i64 0, .slice none 0 0, .slice none 0 0] := by rw [← hv0]; exact Blk.new _ _ _ _ hgp
      have lgp : W.heap.size ≤ gp := by have := (hxd.trans (Ext.refl w0)).size; omega
      rw [hv0]
      try rw [hgp]
      clear hv0 hgp
      refine hK _ _ _ (fun _ hx => hx) ((Ext.refl w0).trans x0) ?_
      clear hK K
      try simp only [Act.put, List.setIfInBounds_toArray, List.set_cons_zero, List.set_cons_succ]
      refine wpOrdT_keep (by rfl) (fun K hK => ?_)
      go_simp
      go_at_call 87
      with_reducible refine (sizeLL_c Al na cl v0).mono ?_
      rintro e v1 ⟨rfl, hww⟩
      subst hww
      refine hK _ _ ((Ext.refl w0).trans x0) ?_
      clear hK K
      try simp only [Act.put, List.setIfInBounds_toArray, List.set_cons_zero, List.set_cons_succ]
      refine wpOrdT_keep (by rfl) (fun K hK => ?_)
      go_simp
      go_at_call 87
      with_reducible refine (sizeLL_c Ar nb cr v0).mono ?_
      rintro e v1 ⟨rfl, hww⟩
      subst hww
      refine hK _ _ ((Ext.refl w0).trans x0) ?_
      clear hK K
      try simp only [Act.put, List.setIfInBounds_toArray, List.set_cons_zero, List.set_cons_succ]
      refine wpOrdT_keep (by rfl) (fun K hK => ?_)
      go_simp
      obtain ⟨v1, hv1⟩ : ∃ W', v0.alloc (.cells #[.int .i64 (sn : Int), .int .i64 (na : Int), .int .i64 (nb : Int)] 2) = W' := ⟨_, rfl⟩
      have x1 : Ext v0 v1 := by rw [← hv1]; exact Ext.alloc _ _
      obtain ⟨gn, hgn⟩ : ∃ q, v0.heap.size = q := ⟨_, rfl⟩
      have bn : Blk v1 gn 2 #[.int .i64 (sn : Int), .int .i64 (na : Int), .int .i64 (nb : Int)] := by rw [← hv1]; exact Blk.new _ _ _ _ hgn
      have lgn : W.heap.size ≤ gn := by have := (hxd.trans ((Ext.refl w0).trans x0)).size; omega
      rw [hv1]
      try rw [hgn]
      clear hv1 hgn
      refine hK _ _ (((Ext.refl w0).trans x0).trans x1) ?_
      clear hK K
      try simp only [Act.put, List.setIfInBounds_toArray, List.set_cons_zero, List.set_cons_succ]
      refine wpOrdT_read (v := .agg #[.int .i64 8, .slice (some ⟨gn, 0, none⟩) 3 3, .slice none 0 0]) (by rfl) (Or.inl ⟨by rfl, fun x hx => by go_simp⟩) ?_
      try simp only [Act.put, List.setIfInBounds_toArray, List.set_cons_zero, List.set_cons_succ]
      refine wpOrdT_done ?_
      try simp only [List.drop_succ_cons, List.drop_zero]
      have BP := (bp.ext x1)
      have HP := Lib.hid (PrI.put BP bn (hxd.trans (((Ext.refl w0).trans x0).trans x1)) lgp lgn)
      have z0 := BP.cell 0
      have f0 := BP.frozen 0
      have z1 := BP.cell 1
      have f1 := BP.frozen 1
      have z2 := BP.cell 2
      have f2 := BP.frozen 2
      simp only [List.getElem?_toArray, List.getElem?_cons_zero, List.getElem?_cons_succ] at z0 z1 z2
      clear BP bp bn hxd x0 x1
      go_wp2_with fail
      go_meet
      exact ⟨gp, gn, rfl, HP.out⟩
  case rest =>
    obtain ⟨gp, gn, rfl, hI⟩ := hcut
    have HI := Lib.hid hI
    have e0 := hI.ext.cell e0
    have e1 := hI.ext.cell e1
    have e2 := hI.ext.cell e2
    have e3 := hI.ext.cell e3
    have HWC := Lib.hid hI.ext
    clear hI
    go_upto_region 2 with fail
    have K1 := fun W' (h' : Ext W W') => copyLists_c (.slice Al na cl) s.l W' (by have := HH.out.2.2.2.1.ext h'; rw [HN.out.2.1] at this; exact this) (fun x hx => by have := HL.out.2.2.1 x hx; omega) (by have := HL.out.1; omega)
    have K2 := fun W' (h' : Ext W W') => copyLists_c (.slice Ar nb cr) s.r W' (by have := HH.out.2.2.2.2.1.ext h'; rw [HN.out.2.2.1] at this; exact this) (fun x hx => by have := HL.out.2.2.2.1 x hx; omega) (by have := HL.out.1; omega)
    refine wp_region_ordT 6 (readsT [0, 1, 3, 4] (.stir 2 (.stir 5 .done))) (by kernel_rfl) (by kernel_rfl) (fun _ _ _ _ _ h => h) ?_
    simp only [readsT]
    iterate 4 (refine wpOrdT_read (v := ?_) (by rfl) (Or.inl ⟨by rfl, fun x hx => ?_⟩) ?_; rotate_left; (· have hx' : Ext wc x := (Ext.drew wc).trans hx; have e1 := hx'.cell e1; have e2 := hx'.cell e2; go_simp; try with_reducible rfl); try simp only [Act.put, List.setIfInBounds_toArray, List.set_cons_zero, List.set_cons_succ])
    have hxd : Ext wc wc.drew := Ext.drew wc
    generalize wc.drew = w0 at *
    refine wpOrdT_keep (by rfl) (fun K hK => ?_)
    go_simp
    go_at_call 89
    with_reducible refine (K1 w0 (HWC.out.trans hxd)).mono ?_
    rintro e v1 ⟨uL, rfl, oL, x1⟩
    obtain ⟨AL, cL, rfl⟩ := oL.form
    refine hK _ _ x1 ?_
    clear hK K K1
    try simp only [Act.put, List.setIfInBounds_toArray, List.set_cons_zero, List.set_cons_succ]
    refine wpOrdT_keep (by rfl) (fun K hK => ?_)
    go_simp
    go_at_call 89
    with_reducible refine (K2 v1 (HWC.out.trans (hxd.trans x1))).mono ?_
    rintro e v2 ⟨uR, rfl, oR, x2⟩
    obtain ⟨AR, cR, rfl⟩ := oR.form
    refine hK _ _ (x1.trans x2) ?_
    clear hK K K2
    try simp only [Act.put, List.setIfInBounds_toArray, List.set_cons_zero, List.set_cons_succ]
    refine wpOrdT_done ?_
    try simp only [List.drop_succ_cons, List.drop_zero]
    obtain ⟨vsL, pL, qL⟩ := oL
    obtain ⟨vsR, pR, qR⟩ := oR
    have hs0 : W.heap.size ≤ w0.heap.size := (HWC.out.trans hxd).size
    have hs1 : w0.heap.size ≤ v1.heap.size := x1.size
    have hs2 : v1.heap.size ≤ v2.heap.size := x2.size
    obtain ⟨bR, hAR, _, hRlt⟩ := own_at pR (by have := HL.out.2.1; omega)
    subst hAR
    have pL2 : v2.ownsRow W.heap.size 27 1 (.slice AL s.l.length cL) s.l.length vsL := ownsRow_base (ownsRow_ext pL x2) hs0
    have hgn : ∀ {u : Value} {zs : List Int} {b : Nat} {V : World}, w0.heap.size ≤ b → OwnInts b V u zs → u.ownBlock ≠ (Value.slice (some ⟨gn, 0, none⟩) 3 3).ownBlock := fun hb ho e => by
      have h1 := (ho.lt gn (by rw [e]; rfl)).1
      have h2 := (HI.out.own.lt gn rfl).2
      have h3 := hxd.size
      omega
    have hvl : vsL.length = s.l.length := by have := pL.1; omega
    have hvr : vsR.length = s.r.length := by have := pR.1; omega
    have hcR : ∀ j u, vsR[j]? = some u → v2.cell? ((⟨bR, 0, none⟩ : Addr).add j) = some u := fun j u hj => by
      have hjl : j < vsR.length := (List.getElem?_eq_some_iff.1 hj).1
      have := pR.cellAt j (by omega)
      rw [hj] at this
      have e : (⟨bR, 0, none⟩ : Addr).add j = ⟨bR, j, none⟩ := by unfold Addr.add; split <;> simp_all
      rw [e]
      exact this
    have hoR1 : ∀ u ∈ vsR, u.oneCell' = true := fun u hu => by
      obtain ⟨j, hj, rfl⟩ := List.getElem_of_mem hu
      obtain ⟨u, e, o⟩ := qR j (by omega)
      rw [List.getElem?_eq_getElem hj] at e
      injection e with e
      rw [e]
      obtain ⟨_, _, e2, _⟩ := (ownsRow_row o).form
      rw [e2]; rfl
    have HQ := Lib.hid (And.intro qL (And.intro qR (And.intro hvl (And.intro hvr pL2))))
    have HX2 := Lib.hid (And.intro (hxd.trans (x1.trans x2)) (And.intro x1 (And.intro x2 (And.intro hs0 (And.intro hs1 hs2)))))
    have hbase : W.heap.size ≤ v2.heap.size := by omega
    have hcol := HL.out.1
    have hvr1 : vsR.length = s.r.length * 1 := by omega
    clear hxd x1 x2 e0 e1 e2 pL pR qL qR hvl hvr hs0 hs1 hs2
    have e3d := HX2.out.1.cell e3
    clear e3
    go_wp2_with (at_builtin; refine wpList_append_own_at _ rfl _ _ 32 rfl W.heap.size 27 r0i (.slice none 0 0) 1 24 Tryz.underlying32 hri rz0 rz1 rz2 rfl (by decide) _ _ _ rfl pL2 ⟨bR, 0, none⟩ s.r.length cR vsR rfl hvr1 hcR hoR1 ?c3 ?c4 hbase ?_)
    case c3 => unfold maxLen; omega
    case c4 => omega
    intro v' w4 hown4 hg4 _ hloc
    obtain ⟨Aw, cw, rfl, _, _, _⟩ := (ownsRow_row hown4).form
    have bP4 := ((HI.out.blk.ext HX2.out.1).kept hg4 (blk_ne_row (HI.out.blk.ext HX2.out.1) pL2 (by decide)))
    have hx4 : Ext v2 w4 ∨ True := .inr trivial
    have eW4 : Ext W w4 := ((HWC.out.trans HX2.out.1)).grown hg4 (fun j hj => by have := (pL2.lt j hj).1; omega)
    have keep4 : ∀ {x : Value} {zs : List Int} {b : Nat}, OwnInts b v2 x zs → OwnInts b w4 x zs := fun hx => World.ownsRow.kept hx hg4 (own_ne hx pL2 (by decide))
    obtain ⟨LR, hLR⟩ : ∃ q, s.l ++ s.r = q := ⟨_, rfl⟩
    have hLRl : LR.length = s.l.length + s.r.length := by rw [← hLR, List.length_append]
    have HB0 : Hid (PrB W.heap.size (w4.setCell ⟨gp, 2, none⟩ (.slice Aw (s.l.length + s.r.length) cw)) gp [(sn : Int), (na : Int), (nb : Int)] LR (.slice (some ⟨gn, 0, none⟩) 3 3) (.slice Aw (s.l.length + s.r.length) cw)) := Lib.hid (by
      obtain ⟨qL, qR, hvl, hvr, _⟩ := HQ.out
      obtain ⟨hX2, x1, x2, hs0, hs1, hs2⟩ := HX2.out
      have far : ∀ {x : Value} {zs : List Int} {b : Nat}, OwnInts b v2 x zs → OwnInts b (w4.setCell ⟨gp, 2, none⟩ (.slice Aw (s.l.length + s.r.length) cw)) x zs := fun hx => ownsRow_far (keep4 hx) (own_far_blk (keep4 hx) bP4 (by decide)) _
      refine ⟨by simpa using bP4.set_ 2 (.slice Aw (s.l.length + s.r.length) cw), far (HI.out.own.ext hX2), by simp [Value.ownBlock], ⟨vsL ++ vsR, ?_, fun i hi => ?_⟩, HI.out.low⟩
      · rw [hLRl]
        exact ownsRow_far hown4 (own_far_blk hown4 bP4 (by decide)) _
      · subst hLR
        by_cases hlt : i < s.l.length
        · obtain ⟨u, e, o⟩ := qL i hlt
          refine ⟨u, by rw [List.getElem?_append_left (by omega), e], ?_, hgn (Nat.le_refl _) o⟩
          rw [List.getElem_append_left hlt]
          exact ownsRow_base (far (OwnInts.ext o x2)) hs0
        · have hi2 : i - s.l.length < s.r.length := by rw [List.length_append] at hi; omega
          obtain ⟨u, e, o⟩ := qR (i - s.l.length) hi2
          refine ⟨u, by rw [List.getElem?_append_right (by omega), hvl, e], ?_, hgn hs1 o⟩
          rw [List.getElem_append_right (by omega)]
          exact ownsRow_base (far o) (by omega))
    have eWV : Ext W (w4.setCell ⟨gp, 2, none⟩ (.slice Aw (s.l.length + s.r.length) cw)) := eW4.setCell (p := ⟨gp, 2, none⟩) HI.out.low _
    have bS4 := HH.out.2.1.ext eWV
    have z0 := bP4.cell 2
    have f0 := bP4.frozen 2
    simp only [List.getElem?_toArray, List.getElem?_cons_zero, List.getElem?_cons_succ] at z0
    have HLRL := Lib.hid (And.intro hLR hLRl)
    have e3 := bS4.cell 3
    simp only [List.getElem?_toArray, List.getElem?_cons_zero, List.getElem?_cons_succ] at e3
    rw [HN.out.2.2.2] at e3
    have HEW := Lib.hid eWV
    clear hown4 hg4 hloc hx4 pL2 hgn hcR hoR1 keep4 eW4 bP4 bS4 eWV hLR hLRl hvr1 hbase hRlt e3d
    obtain ⟨V, hV⟩ : ∃ V, w4.setCell ⟨gp, 2, none⟩ (.slice Aw (s.l.length + s.r.length) cw) = V := ⟨_, rfl⟩
    rw [hV] at HB0 HEW e3
    go_upto_region 3 with fail
    try rw [hV]
    clear hV z0 f0
    obtain ⟨heads, hheads⟩ : ∃ q, (s.c.map fun w => w.getD 0 0) = q := ⟨_, rfl⟩
    obtain ⟨tails, htails⟩ : ∃ q, (s.c.map fun w => w.drop 1) = q := ⟨_, rfl⟩
    have HHT := Lib.hid (And.intro hheads htails)
    have hhl : heads.length = nc := by rw [← hheads, List.length_map]; exact HN.out.2.2.2
    have htl : tails.length = nc := by rw [← htails, List.length_map]; exact HN.out.2.2.2
    have HHL := Lib.hid (And.intro hhl htl)
    clear hheads htails hhl htl
    go_wp2
    go_loopw [27] (fun i wr => ∃ (k : Nat) (nv wv : Value), k ≤ nc ∧ i = .int .i64 (k : Int) ∧ Hid (PrB W.heap.size wr gp ([(sn : Int), (na : Int), (nb : Int)] ++ heads.take k) (LR ++ tails.take k) nv wv) ∧ Hid (Ext W wr)) (fun i _ => nc - (intOf i).toNat)
    case atStart => exact ⟨0, _, _, Nat.zero_le _, rfl, Lib.hid (by simpa using HB0.out), HEW⟩
    case round =>
      obtain ⟨k, nv, wv, hk, rfl, HB, HE⟩ := hrel
      clear HB0 HEW
      by_cases hlt : k < nc
      · have hd : decide ((k : Int) < (nc : Int)) = true := decide_eq_true (by omega)
        have hc1 : (k : Int) < (nc : Int) := by omega
        have hwk : IntKind.i64.wrap ((k : Int) + 1) = ((k + 1 : Nat) : Int) := by rw [show (k : Int) + 1 = ((k + 1 : Nat) : Int) by omega]; exact IntWalk.i64_in _ (by omega)
        have hkc : k < s.c.length := by have := HN.out.2.2.2; omega
        have LC := HH.out.2.2.2.2.2.1
        obtain ⟨b', off', uu, hAc, c0, iu, fu⟩ := Lists.at LC hkc
        subst hAc
        have c0 := HE.out.cell c0
        have hlx := HL.out.2.2.2.2 _ (List.getElem_mem hkc)
        obtain ⟨x, hxk⟩ : ∃ x, s.c[k] = x := ⟨_, rfl⟩
        rw [hxk] at iu hlx
        obtain ⟨q, xs, rfl⟩ : ∃ a t, x = a :: t := by
          cases x with
          | nil => simp at hlx
          | cons a t => exact ⟨a, t, rfl⟩
        have HT1 : Hid (heads.take (k + 1) = heads.take k ++ [q]) := Lib.hid (by
          have hkh : k < heads.length := by have := HHL.out.1; omega
          rw [List.take_succ_eq_append_getElem hkh]
          congr 2
          have := HHT.out.1
          subst this
          simp [hxk])
        have HT2 : Hid (tails.take (k + 1) = tails.take k ++ [xs]) := Lib.hid (by
          have hkh : k < tails.length := by have := HHL.out.2; omega
          rw [List.take_succ_eq_append_getElem hkh]
          congr 2
          have := HHT.out.2
          subst this
          simp [hxk])
        obtain ⟨bu, ou, cu, rfl⟩ := ints_at iu (by simp)
        obtain ⟨bb, oo, ee, hcell⟩ := iu.at (k := 0) (by simp)
        injection ee with ee
        injection ee with e1 e2
        subst e1 e2
        have q0 := hcell 0 (by simp)
        simp only [List.getElem_cons_zero, Nat.add_zero] at q0
        have q0 := HE.out.cell q0
        have hcu : (q :: xs).length ≤ cu := by
          obtain ⟨_, _, e, h, _⟩ := iu.form
          (injection e with _ _ e3) <;> omega
        have hdrop : Ints W (.slice (some ⟨bu, ou + 1, none⟩) xs.length (cu - 1)) xs := iu.drop 1 (by simp)
        have hxs1 : 1 ≤ xs.length ∧ xs.length ≤ 9 := by simp only [List.length_cons] at hlx; omega
        obtain ⟨nx, hnx⟩ : ∃ z, xs.length = z := ⟨_, rfl⟩
        have hql : (q :: xs).length = nx + 1 := by rw [List.length_cons, hnx]
        rw [hql] at c0 hcu
        rw [hnx] at hxs1
        have hcu1 : ¬ cu = 1 := by omega
        have HDR := Lib.hid (And.intro hdrop hnx)
        have hB := HB.out
        obtain ⟨An, cn, rfl, _, _, _⟩ := (ownsRow_row hB.own).form
        obtain ⟨vs, pW, qW⟩ := hB.ws
        obtain ⟨Aw2, cw2, rfl, _, _, _⟩ := (ownsRow_row pW).form
        have y1 := hB.blk.cell 1
        simp only [List.getElem?_toArray, List.getElem?_cons_zero, List.getElem?_cons_succ] at y1
        have HLN : Hid (([(sn : Int), (na : Int), (nb : Int)] ++ heads.take k).length ≤ 4000) := Lib.hid (by simp; omega)
        have HLW : Hid ((LR ++ tails.take k).length ≤ 8000) := Lib.hid (by rw [List.length_append, HLRL.out.2, List.length_take]; omega)
        obtain ⟨NS, hNS⟩ : ∃ z, [(sn : Int), (na : Int), (nb : Int)] ++ heads.take k = z := ⟨_, rfl⟩
        obtain ⟨WS, hWS⟩ : ∃ z, LR ++ tails.take k = z := ⟨_, rfl⟩
        rw [hNS] at HLN y1
        rw [hWS] at HLW
        rw [hNS, hWS] at hB
        have HNW := Lib.hid (And.intro hNS hWS)
        have HBB := Lib.hid hB
        clear hdrop hlx hql hxk iu fu hcell LC e3 qW pW hNS hWS hB HB
        obtain ⟨ln, hln⟩ : ∃ z, NS.length = z := ⟨_, rfl⟩
        have hlnb : ln ≤ 4000 := by have := HLN.out; omega
        go_upto_region 6 with fail
        refine wp_region_ordT 6 (readsT [0, 1, 2, 3, 4] (.stir 5 .done)) (by kernel_rfl) (by kernel_rfl) (fun _ _ _ _ _ h => h) ?_
        simp only [readsT]
        iterate 5 (refine wpOrdT_read (v := ?_) (by rfl) (Or.inl ⟨by rfl, fun x hx => ?_⟩) ?_; rotate_left; (· have hx' : Ext wr x := (Ext.drew wr).trans hx; have y1 := hx'.cell y1; have q0 := hx'.cell q0; go_simp; try with_reducible rfl); try simp only [Act.put, List.setIfInBounds_toArray, List.set_cons_zero, List.set_cons_succ])
        have hxd : Ext wr wr.drew := Ext.drew wr
        generalize wr.drew = w0 at *
        refine wpOrdT_keep (by rfl) (fun K hK => ?_)
        go_simp
        refine hK _ _ (Ext.alloc _ _) ?_
        clear hK K y1 q0
        try simp only [Act.put, List.setIfInBounds_toArray, List.set_cons_zero, List.set_cons_succ]
        refine wpOrdT_done ?_
        try simp only [List.drop_succ_cons, List.drop_zero]
        have ea : Ext wr (w0.alloc (.cells #[.int .i64 q] 2)) := hxd.trans (Ext.alloc _ _)
        have hB1 := HBB.out.ext ea
        have hown1 := hB1.own
        have hsB : W.heap.size ≤ (w0.alloc (.cells #[.int .i64 q] 2)).heap.size := (HE.out.trans ea).size
        rw [hln] at hown1
        have HBA := Lib.hid (And.intro hB1 ea)
        clear hB1 ea hxd
        unfold OwnInts at hown1
        rw [hln] at hown1
        go_wp2_with (at_builtin; refine wpList_append_own_at _ rfl _ _ 27 rfl W.heap.size 2 i0 (.int .i64 0) 1 8 Tryz.underlying27 hi hz0 hz1 hz2 rfl (by decide) _ _ _ rfl hown1 ⟨w0.heap.size, 0, none⟩ 1 1 [.int .i64 q] rfl rfl (cell_one_new _ _ _) ?c2 ?c3 ?c4 hsB ?_)
        case c2 => first | rfl | (intro u hu; simp at hu; subst hu; rfl)
        case c3 => unfold maxLen; omega
        case c4 => omega
        intro v1 w1 hown2 hg1 _ hloc1
        have ho1 : OwnInts W.heap.size w1 v1 (NS ++ [q]) := by
          unfold OwnInts
          rw [ivs_append, List.length_append, hln]
          exact hown2
        have bP1 := (HBA.out.1.blk).kept hg1 (blk_ne_row HBA.out.1.blk hown1 (by decide))
        have hB2 := HBA.out.1.num ho1 (by rw [← hln] at hg1; rw [hln] at hg1; rw [hln]; exact hg1) (by rw [hln, World.size_alloc]; exact hloc1)
        have eX1 : Ext W w1 := (HE.out.trans HBA.out.2).grown hg1 (fun j hj => by have := (hown1.lt j hj).1; exact this)
        have eX2 : Ext W (w1.setCell ⟨gp, 1, none⟩ v1) := eX1.setCell (p := ⟨gp, 1, none⟩) HI.out.low _
        obtain ⟨A1, c1, rfl, _, _, _⟩ := (ownsRow_row hown2).form
        have z1 := bP1.cell 1
        have f1 := bP1.frozen 1
        simp only [List.getElem?_toArray, List.getElem?_cons_zero, List.getElem?_cons_succ] at z1
        obtain ⟨V1, hV1⟩ : ∃ V, w1.setCell ⟨gp, 1, none⟩ (.slice A1 (ln + 1) c1) = V := ⟨_, rfl⟩
        rw [hV1] at hB2 eX2
        have HB2 := Lib.hid (And.intro hB2 eX2)
        clear hown2 hg1 hloc1 ho1 bP1 hB2 eX1 eX2 hown1 hsB
        go_upto_region 7 with fail
        try rw [hV1]
        clear hV1 z1 f1
        have y2 := HB2.out.1.blk.cell 2
        simp only [List.getElem?_toArray, List.getElem?_cons_zero, List.getElem?_cons_succ] at y2
        obtain ⟨vs, pW, qW⟩ := HB2.out.1.ws
        obtain ⟨lw, hlw⟩ : ∃ z, WS.length = z := ⟨_, rfl⟩
        have hlwb : lw ≤ 8000 := by have := HLW.out; omega
        have hiX := HDR.out.1.ext HB2.out.2
        rw [HDR.out.2] at hiX
        rw [hlw] at y2
        have HPW := Lib.hid (And.intro pW qW)
        have HIX := Lib.hid hiX
        clear pW qW hiX
        refine wp_region_ordT 6 (readsT [0, 1, 2, 3] (.stir 4 (.stir 5 .done))) (by kernel_rfl) (by kernel_rfl) (fun _ _ _ _ _ h => h) ?_
        simp only [readsT]
        iterate 3 (refine wpOrdT_read (v := ?_) (by rfl) (Or.inl ⟨by rfl, fun x hx => ?_⟩) ?_; rotate_left; (· have hx' : Ext V1 x := (Ext.drew V1).trans hx; have y2 := hx'.cell y2; go_simp; try with_reducible rfl); try simp only [Act.put, List.setIfInBounds_toArray, List.set_cons_zero, List.set_cons_succ])
        refine wpOrdT_read (v := .slice (some ⟨bu, ou + 1, none⟩) nx (cu - 1)) (by rfl) (Or.inl ⟨by rfl, fun x hx => ?_⟩) ?_
        · go_simp
          intro hh
          exfalso
          omega
        try simp only [Act.put, List.setIfInBounds_toArray, List.set_cons_zero, List.set_cons_succ]
        have hxd : Ext V1 V1.drew := Ext.drew V1
        generalize V1.drew = w0 at *
        refine wpOrdT_keep (by rfl) (fun K hK => ?_)
        go_simp
        go_at_call 68
        have CF := CloneF_c (.slice (some ⟨bu, ou + 1, none⟩) nx (cu - 1)) xs w0 (HIX.out.ext hxd) (.inr ⟨_, _, _, _, rfl⟩) (by have := HDR.out.2; omega)
        with_reducible refine CF.mono ?_
        rintro e v2 ⟨u2, rfl, o2, _, x2⟩
        obtain ⟨A2, c2, rfl, _, _, _⟩ := (ownsRow_row o2).form
        refine hK _ _ x2 ?_
        clear hK K y2
        try simp only [Act.put, List.setIfInBounds_toArray, List.set_cons_zero, List.set_cons_succ]
        refine wpOrdT_keep (by rfl) (fun K hK => ?_)
        go_simp
        refine hK _ _ (x2.trans (Ext.alloc _ _)) ?_
        clear hK K
        try simp only [Act.put, List.setIfInBounds_toArray, List.set_cons_zero, List.set_cons_succ]
        refine wpOrdT_done ?_
        try simp only [List.drop_succ_cons, List.drop_zero]
        have ea := Ext.alloc v2 (.cells #[.slice A2 xs.length c2] 27)
        have eV := (hxd.trans x2).trans ea
        have hB3 := HB2.out.1.ext eV
        have pW3 := ownsRow_ext HPW.out.1 eV
        have qW3 : ∀ i, (h : i < WS.length) → ∃ u, vs[i]? = some u ∧ OwnInts W.heap.size (v2.alloc (.cells #[.slice A2 xs.length c2] 27)) u WS[i] ∧ u.ownBlock ≠ (Value.slice A1 (ln + 1) c1).ownBlock := fun i hi => by obtain ⟨u, a, b, c⟩ := HPW.out.2 i hi; exact ⟨u, a, b.ext eV, c⟩
        have hwV : W.heap.size ≤ w0.heap.size := (HB2.out.2.trans hxd).size
        have o3 : OwnInts W.heap.size (v2.alloc (.cells #[.slice A2 xs.length c2] 27)) (.slice A2 xs.length c2) xs := ownsRow_base (OwnInts.ext o2 ea) hwV
        have hne3 : (Value.slice A2 xs.length c2).ownBlock ≠ (Value.slice A1 (ln + 1) c1).ownBlock := fun e => by
          rcases hb : (Value.slice A1 (ln + 1) c1).ownBlock with _ | k1
          · exact HB2.out.1.some_ hb
          · rw [hb] at e
            have h1 := (o2.lt k1 e).1
            have h2 := (HB2.out.1.own.lt k1 hb).2
            have h3 := hxd.size
            omega
        have hsB : W.heap.size ≤ (v2.alloc (.cells #[.slice A2 xs.length c2] 27)).heap.size := by have := eV.size; have := HB2.out.2.size; omega
        rw [hlw] at pW3
        have HB3 := Lib.hid (And.intro hB3 (And.intro qW3 (And.intro o3 (And.intro hne3 (HB2.out.2.trans eV)))))
        clear hB3 qW3 o3 hne3 eV ea hxd x2 o2 hwV
        have hlx2 : xs.length = nx := HDR.out.2
        rw [hlx2] at pW3 hsB HB3
        clear hlx2
        go_wp2_with (at_builtin; refine wpList_append_own_at _ rfl _ _ 32 rfl W.heap.size 27 r0i (.slice none 0 0) 1 24 Tryz.underlying32 hri rz0 rz1 rz2 rfl (by decide) _ _ _ rfl pW3 ⟨v2.heap.size, 0, none⟩ 1 1 [.slice A2 nx c2] rfl rfl (cell_one_new _ _ _) ?c2 ?c3 ?c4 hsB ?_)
        case c2 => first | rfl | (intro u hu; simp at hu; subst hu; rfl)
        case c3 => unfold maxLen; omega
        case c4 => omega
        intro v3 w3 hown3 hg3 _ hloc3
        obtain ⟨hB3, qW3, o3, hne3, eX3⟩ := HB3.out
        have bP3 := hB3.blk.kept hg3 (blk_ne_row hB3.blk pW3 (by decide))
        have hB4 := PrB.word (v' := v3) hB3 (by rw [hlw]; exact pW3) qW3 o3 hne3 (by rw [hlw]; exact hown3) (by rw [hlw]; exact hg3)
        have eX4 : Ext W (w3.setCell ⟨gp, 2, none⟩ v3) := (eX3.grown hg3 (fun j hj => (pW3.lt j hj).1)).setCell (p := ⟨gp, 2, none⟩) HI.out.low _
        obtain ⟨A3, c3, rfl, _, _, _⟩ := (ownsRow_row hown3).form
        have z2 := bP3.cell 2
        have f2 := bP3.frozen 2
        simp only [List.getElem?_toArray, List.getElem?_cons_zero, List.getElem?_cons_succ] at z2
        have HREL : Hid (PrB W.heap.size (w3.setCell ⟨gp, 2, none⟩ (.slice A3 (lw + 1) c3)) gp ([(sn : Int), (na : Int), (nb : Int)] ++ heads.take (k + 1)) (LR ++ tails.take (k + 1)) (.slice A1 (ln + 1) c1) (.slice A3 (lw + 1) c3)) := Lib.hid (by
          rw [HT1.out, HT2.out, ← List.append_assoc, ← List.append_assoc, HNW.out.1, HNW.out.2]
          exact hB4)
        have HEX4 := Lib.hid eX4
        clear hB3 qW3 o3 hne3 eX3 bP3 hB4 eX4 hown3 hg3 hloc3 pW3 hsB
        go_wp2
        go_roundw
        case rel => exact ⟨k + 1, _, _, by omega, by go_num, HREL, HEX4⟩
        case measure => simp [intOf]; omega
      · have hd : decide ((k : Int) < (nc : Int)) = false := decide_eq_false (by omega)
        have hc1 : ¬ (k : Int) < (nc : Int) := by omega
        have hkn : k = nc := by omega
        subst hkn
        have hB := HB.out
        rw [List.take_of_length_le (by have := HHL.out.1; omega), List.take_of_length_le (by have := HHL.out.2; omega)] at hB
        have hpx : proofX s = ⟨8, [(sn : Int), (na : Int), (nb : Int)] ++ heads, LR ++ tails⟩ := by
          unfold proofX
          rw [HN.out.1, HN.out.2.1, HN.out.2.2.1, HHT.out.1, HHT.out.2, HLRL.out.1]
          rfl
        obtain ⟨NS, hNS⟩ : ∃ z, [(sn : Int), (na : Int), (nb : Int)] ++ heads = z := ⟨_, rfl⟩
        obtain ⟨WS, hWS⟩ : ∃ z, LR ++ tails = z := ⟨_, rfl⟩
        rw [hNS, hWS] at hB hpx
        obtain ⟨An, cn, rfl, _, _, _⟩ := (ownsRow_row hB.own).form
        obtain ⟨vs, pW, qW⟩ := hB.ws
        obtain ⟨Aw2, cw2, rfl, _, _, _⟩ := (ownsRow_row pW).form
        have y0 := hB.blk.cell 0
        have y1 := hB.blk.cell 1
        have y2 := hB.blk.cell 2
        have bO := HH.out.2.2.1.ext HE.out
        have o0 := bO.cell 0
        have o1 := bO.cell 1
        have o2 := bO.cell 2
        have z0 := bO.frozen 0
        have z1 := bO.frozen 1
        have z2 := bO.frozen 2
        simp only [List.getElem?_toArray, List.getElem?_cons_zero, List.getElem?_cons_succ] at y0 y1 y2 o0 o1 o2
        have hgw : w.heap.size = g := HH.out.2.2.2.2.2.2
        have hWw := HH.out.1.size
        have HFIN : Hid (PrfO w.heap.size (((wr.setCell ⟨g + 1, 0, none⟩ (.int .i64 8)).setCell ⟨g + 1, 1, none⟩ (.slice An NS.length cn)).setCell ⟨g + 1, 2, none⟩ (.slice Aw2 WS.length cw2)) (.agg #[.int .i64 8, .slice An NS.length cn, .slice Aw2 WS.length cw2]) (proofX s) ∧ Ext w (((wr.setCell ⟨g + 1, 0, none⟩ (.int .i64 8)).setCell ⟨g + 1, 1, none⟩ (.slice An NS.length cn)).setCell ⟨g + 1, 2, none⟩ (.slice Aw2 WS.length cw2))) := Lib.hid (by
          have b0 := bO.set_ 0 (.int .i64 8)
          have b1 := b0.set_ 1 (.slice An NS.length cn)
          have P0 : PrfO W.heap.size wr (.agg #[.int .i64 8, .slice An NS.length cn, .slice Aw2 WS.length cw2]) ⟨8, NS, WS⟩ := ⟨An, cn, Aw2, cw2, rfl, hB.own, hB.own_lists⟩
          rw [hpx]
          exact ⟨(((P0.farX bO (by decide) (by decide) _ _).farX b0 (by decide) (by decide) _ _).farX b1 (by decide) (by decide) _ _).base0 hWw, (((HH.out.1.trans HE.out).setCell (p := ⟨g + 1, 0, none⟩) (by simp only; omega) _).setCell (p := ⟨g + 1, 1, none⟩) (by simp only; omega) _).setCell (p := ⟨g + 1, 2, none⟩) (by simp only; omega) _⟩)
        clear hB bO HB pW qW hpx hgw hWw
        generalize NS.length = ln at *
        generalize WS.length = lw at *
        go_wp2
        refine bodyPost_ret (v := .agg #[.int .i64 8, .slice An ln cn, .slice Aw2 lw cw2]) (by simp [results, Tryz.results91, go_sem, o0, o1, o2]) rfl ?_
        exact ⟨_, rfl, HFIN.out.1, HFIN.out.2⟩
end Go.Proofs.YtapjofbjedpmgaaGreat
end
section
set_option linter.unusedSimpArgs false
set_option linter.unusedVariables false
namespace Go.Proofs.YtapjofbjedpmgaaGreat
open Go Go.RowKit Go.Proofs
set_option maxHeartbeats 400000
/-- What checked returns. -/
def ChkR (base : Nat) (s : SetsD) (e : Ending) (w' : World) : Prop :=
  (prfOk (proofX s) = true ∧ ∃ u, e = .returned (.tuple #[u, .int .i64 0]) ∧ PrfO base w' u (proofX s)) ∨ (prfOk (proofX s) = false ∧ e = .returned (.tuple #[.agg #[.int .i64 0, .slice none 0 0, .slice none 0 0], .int .i64 5]))
set_option maxRecDepth 200000 in
set_option maxHeartbeats 8000000 in
theorem checked_c (v : Value) (s : SetsD) (w : World) (h : SetsV w v s) (hl : s.l.length ≤ 900 ∧ s.r.length ≤ 900 ∧ s.c.length ≤ 3000) (h0 : 0 < s.l.length ∧ 0 < s.r.length) (hz : (∀ x ∈ s.l, x.length ≤ 10) ∧ (∀ x ∈ s.r, x.length ≤ 10) ∧ ∀ x ∈ s.c, 2 ≤ x.length ∧ x.length ≤ 10) :
    Calls Tryz.prog 51 #[v] w fun e w' => ChkR w.heap.size s e w' ∧ Ext w w' := by
  obtain ⟨lv, rv, cv, rfl, kl, kr, kc⟩ := id h
  obtain ⟨Al, cl, rfl, _, _⟩ := id kl.form
  obtain ⟨Ar, cr, rfl, _, _⟩ := id kr.form
  obtain ⟨Ac, cc, rfl, _, _⟩ := id kc.form
  obtain ⟨W, hW⟩ : ∃ W, W = (w.alloc (.cells #[.int .i64 (s.n : Int), .slice Al s.l.length cl, .slice Ar s.r.length cr, .slice Ac s.c.length cc] 58)).alloc (.cells #[.int .i64 0, .slice none 0 0, .slice none 0 0] 34) := ⟨_, rfl⟩
  obtain ⟨g, hg⟩ : ∃ g, w.heap.size = g := ⟨_, rfl⟩
  have hX : Ext w W := by rw [hW]; exact (Ext.alloc _ _).trans (Ext.alloc _ _)
  have bS : Blk W g 58 #[.int .i64 (s.n : Int), .slice Al s.l.length cl, .slice Ar s.r.length cr, .slice Ac s.c.length cc] := by rw [hW]; exact (Blk.new _ _ _ _ hg).alloc _
  have bO : Blk W (g + 1) 34 #[.int .i64 0, .slice none 0 0, .slice none 0 0] := by rw [hW]; exact Blk.new _ _ _ _ (by simp [hg])
  have PC := proof_c _ s W (h.ext hX) hl h0 hz
  have e0 := bS.cell 0
  have e1 := bS.cell 1
  have e2 := bS.cell 2
  have e3 := bS.cell 3
  simp only [List.getElem?_toArray, List.getElem?_cons_zero, List.getElem?_cons_succ] at e0 e1 e2 e3
  have HH := Lib.hid (And.intro hX (And.intro bO hg))
  obtain ⟨sn, hsn⟩ : ∃ q, s.n = q := ⟨_, rfl⟩
  obtain ⟨na, hna⟩ : ∃ q, s.l.length = q := ⟨_, rfl⟩
  obtain ⟨nb, hnb⟩ : ∃ q, s.r.length = q := ⟨_, rfl⟩
  obtain ⟨nc, hnc⟩ : ∃ q, s.c.length = q := ⟨_, rfl⟩
  rw [hsn, hna, hnb, hnc] at PC hW
  rw [hsn] at e0
  rw [hna] at e1
  rw [hnb] at e2
  rw [hnc] at e3
  rw [hsn, hna, hnb, hnc]
  clear hX bS bO kl kr kc hl h0 hz hsn hna hnb hnc h
  go_enter Tryz.func51, Tryz.ntmps51
  go_upto_region 1 with fail
  try rw [← hW]
  try rw [hg]
  clear hW hg
  go_wp2_with fail
  refine PC.mono ?_
  rintro e w1 ⟨u, rfl, ⟨An, cn, Aw, cw, rfl, oN, oW⟩, hx1⟩
  clear PC e0 e1 e2 e3
  obtain ⟨V, hV⟩ : ∃ V, w1.alloc (.cells #[.int .i64 (proofX s).k, .slice An (proofX s).ns.length cn, .slice Aw (proofX s).ws.length cw] 34) = V := ⟨_, rfl⟩
  obtain ⟨gq, hgq⟩ : ∃ q, w1.heap.size = q := ⟨_, rfl⟩
  have hxv : Ext w1 V := by rw [← hV]; exact Ext.alloc _ _
  have bV : Blk V gq 34 #[.int .i64 (proofX s).k, .slice An (proofX s).ns.length cn, .slice Aw (proofX s).ws.length cw] := by rw [← hV]; exact Blk.new _ _ _ _ hgq
  have P0 : PrfO W.heap.size V (.agg #[.int .i64 (proofX s).k, .slice An (proofX s).ns.length cn, .slice Aw (proofX s).ws.length cw]) (proofX s) := ⟨An, cn, Aw, cw, rfl, OwnInts.ext oN hxv, oW.ext hxv⟩
  have VP := ValidProof_c _ (proofX s) V P0.l.prf
  have HP := Lib.hid (And.intro P0 (And.intro bV (hx1.trans hxv)))
  have d0 := bV.cell 0
  have d1 := bV.cell 1
  have d2 := bV.cell 2
  simp only [List.getElem?_toArray, List.getElem?_cons_zero, List.getElem?_cons_succ] at d0 d1 d2
  obtain ⟨ok, hok⟩ : ∃ b, prfOk (proofX s) = b := ⟨_, rfl⟩
  rw [hok] at VP
  have HOK := Lib.hid hok
  obtain ⟨P, hP⟩ : ∃ q, proofX s = q := ⟨_, rfl⟩
  rw [hP] at VP HP d0 d1 d2 hV HOK
  obtain ⟨pk, hpk⟩ : ∃ q, P.k = q := ⟨_, rfl⟩
  obtain ⟨ln, hln⟩ : ∃ q, P.ns.length = q := ⟨_, rfl⟩
  obtain ⟨lw, hlw⟩ : ∃ q, P.ws.length = q := ⟨_, rfl⟩
  rw [hpk, hln, hlw] at VP HP hV
  rw [hpk] at d0
  rw [hln] at d1
  rw [hlw] at d2
  have HPP := Lib.hid hP
  rw [show (proofX s).k = pk by rw [hP, hpk], show (proofX s).ns.length = ln by rw [hP, hln], show (proofX s).ws.length = lw by rw [hP, hlw]]
  clear bV hxv hx1 P0 oN oW hok hP hpk hln hlw
  go_upto_region 2 with fail
  try rw [hV]
  try rw [hgq]
  clear hV hgq
  go_wp2_with fail
  refine VP.mono ?_
  rintro e w2 ⟨rfl, hx2⟩
  clear VP
  have d0 := hx2.cell d0
  have d1 := hx2.cell d1
  have d2 := hx2.cell d2
  have bO := HH.out.2.1.ext (HP.out.2.2.trans hx2)
  have o0 := bO.cell 0
  have o1 := bO.cell 1
  have o2 := bO.cell 2
  have z0 := bO.frozen 0
  have z1 := bO.frozen 1
  have z2 := bO.frozen 2
  simp only [List.getElem?_toArray, List.getElem?_cons_zero, List.getElem?_cons_succ] at o0 o1 o2
  have hX2 : Ext w w2 := HH.out.1.trans (HP.out.2.2.trans hx2)
  have HX2 := Lib.hid (And.intro hX2 (And.intro bO hx2))
  clear bO hx2 hX2
  cases ok with
  | true =>
    have HFIN : Hid (PrfO w.heap.size (((w2.setCell ⟨g + 1, 0, none⟩ (.int .i64 pk)).setCell ⟨g + 1, 1, none⟩ (.slice An ln cn)).setCell ⟨g + 1, 2, none⟩ (.slice Aw lw cw)) (.agg #[.int .i64 pk, .slice An ln cn, .slice Aw lw cw]) P ∧ Ext w (((w2.setCell ⟨g + 1, 0, none⟩ (.int .i64 pk)).setCell ⟨g + 1, 1, none⟩ (.slice An ln cn)).setCell ⟨g + 1, 2, none⟩ (.slice Aw lw cw))) := Lib.hid (by
      have hgw := HH.out.2.2
      have b0 := HX2.out.2.1.set_ 0 (.int .i64 pk)
      have b1 := b0.set_ 1 (.slice An ln cn)
      exact ⟨((((HP.out.1.ext HX2.out.2.2).farX HX2.out.2.1 (by decide) (by decide) _ _).farX b0 (by decide) (by decide) _ _).farX b1 (by decide) (by decide) _ _).base0 HH.out.1.size, ((HX2.out.1.setCell (p := ⟨g + 1, 0, none⟩) (by simp only; omega) _).setCell (p := ⟨g + 1, 1, none⟩) (by simp only; omega) _).setCell (p := ⟨g + 1, 2, none⟩) (by simp only; omega) _⟩)
    go_wp2
    refine bodyPost_ret (v := .tuple #[.agg #[.int .i64 pk, .slice An ln cn, .slice Aw lw cw], .int .i64 0]) (by simp [results, Tryz.results51, go_sem, o0, o1, o2]) rfl ?_
    exact ⟨.inl ⟨by rw [HPP.out]; exact HOK.out, _, rfl, by rw [HPP.out]; exact HFIN.out.1⟩, HFIN.out.2⟩
  | false =>
    have HFIN : Hid (Ext w (((w2.setCell ⟨g + 1, 0, none⟩ (.int .i64 0)).setCell ⟨g + 1, 1, none⟩ (.slice none 0 0)).setCell ⟨g + 1, 2, none⟩ (.slice none 0 0))) := Lib.hid (by
      have hgw := HH.out.2.2
      exact ((HX2.out.1.setCell (p := ⟨g + 1, 0, none⟩) (by simp only; omega) _).setCell (p := ⟨g + 1, 1, none⟩) (by simp only; omega) _).setCell (p := ⟨g + 1, 2, none⟩) (by simp only; omega) _)
    go_wp2
    refine bodyPost_ret (v := .tuple #[.agg #[.int .i64 0, .slice none 0 0, .slice none 0 0], .int .i64 5]) (by simp [results, Tryz.results51, go_sem, o0, o1, o2]) rfl ?_
    exact ⟨.inr ⟨by rw [HPP.out]; exact HOK.out, rfl⟩, HFIN.out⟩
end Go.Proofs.YtapjofbjedpmgaaGreat
end
section
namespace Go.Proofs.YtapjofbjedpmgaaGreat
open Go
section
variable {P : Program} {ops : Array Oper} {md : Region.Mode} {Q : Exit → Act → World → Prop}
inductive OrdV where
  | done
  | read (i : Nat) (t : OrdV)
  | stir (i : Nat) (t : OrdV)
  | fork (i : Nat) (t : OrdV) (j : Nat) (u : OrdV)
  | fork3 (i : Nat) (t : OrdV) (j : Nat) (u : OrdV) (k : Nat) (v : OrdV)
def readsV : List Nat → OrdV → OrdV
  | [], t => t
  | i :: is, t => .read i (readsV is t)
def wpOrdV (P : Program) (ops : Array Oper) (Q : Exit → Act → World → Prop) (l : List Oper) (L : Act → World → Prop) : OrdV → (World → Prop) → Act → World → Prop
  | .done, _, a, w => L a w
  | .read i t, S, a, w => ∃ o, nthO l i = some o ∧ ∃ v, YieldsIf P ops S o v a ∧ wpOrdV P ops Q l L t S (a.put o.dst v) w
  | .stir i t, S, a, w => ∃ o, nthO l i = some o ∧ stirT P ops Q (wpOrdV P ops Q l L t) o S a w
  | .fork i t j u, S, a, w => (∃ o, nthO l i = some o ∧ stirT P ops Q (wpOrdV P ops Q l L t) o S a w) ∧ (∃ o, nthO l j = some o ∧ stirT P ops Q (wpOrdV P ops Q l L u) o S a w)
  | .fork3 i t j u k v, S, a, w => (∃ o, nthO l i = some o ∧ stirT P ops Q (wpOrdV P ops Q l L t) o S a w) ∧ (∃ o, nthO l j = some o ∧ stirT P ops Q (wpOrdV P ops Q l L u) o S a w) ∧ (∃ o, nthO l k = some o ∧ stirT P ops Q (wpOrdV P ops Q l L v) o S a w)
def ordVB (md : Region.Mode) (ops : Array Oper) (n g : Nat) : Nat → OrdV → Array Bool → Bool
  | 0, .done, listed => Region.seqB md ops g n listed
  | f + 1, .read i t, listed => decide (i < n) && (Region.ready md ops listed).contains i && Region.free md ops listed i && ordVB md ops n g f t (listed.setIfInBounds i true)
  | f + 1, .stir i t, listed => decide (i < n) && (Region.ready md ops listed == [i]) && ordVB md ops n g f t (listed.setIfInBounds i true)
  | f + 1, .fork i t j u, listed => decide (i < n) && decide (j < n) && (Region.ready md ops listed == [i, j]) && ordVB md ops n g f t (listed.setIfInBounds i true) && ordVB md ops n g f u (listed.setIfInBounds j true)
  | f + 1, .fork3 i t j u k v, listed => decide (i < n) && decide (j < n) && decide (k < n) && (Region.ready md ops listed == [i, j, k]) && ordVB md ops n g f t (listed.setIfInBounds i true) && ordVB md ops n g f u (listed.setIfInBounds j true) && ordVB md ops n g f v (listed.setIfInBounds k true)
  | _, _, _ => false
theorem wpAnyN_ordV {n g : Nat} {Lq : Act → World → Prop} {l : List Oper} (hl : ops = l.toArray) (hsel : Region.noSelect ops = true) (hQ : ∀ c t t' d w, Q (.panic c) ⟨t, d⟩ w → Q (.panic c) ⟨t', d⟩ w) (hs : Region.sinkB md ops n = true) (hc : Region.chainB md ops n = true) (hn : n < ops.size) :
    ∀ (f : Nat) (tr : OrdV) (S : World → Prop) (listed : Array Bool) (a : Act) (w : World), HeadInv md ops n listed → ordVB md ops n g f tr listed = true → S w → wpOrdV P ops Q l Lq tr S a w →
    wpAnyN P md ops Q n (fun listed' a' w' => Region.seqB md ops g n listed' = true ∧ Lq a' w') f S listed a w := by
  have hnth : ∀ i o, nthO l i = some o → ops[i]? = some o := fun i o h => by rw [nthO_eq] at h; rw [hl]; simpa using h
  intro f
  induction f with
  | zero =>
    intro tr S listed a w inv hB hS h
    cases tr with
    | done => exact ⟨hB, h⟩
    | read i t => simp [ordVB] at hB
    | stir i t => simp [ordVB] at hB
    | fork i t j u => simp [ordVB] at hB
    | fork3 i t j u k v => simp [ordVB] at hB
  | succ f ih =>
    intro tr S listed a w inv hB hS h
    cases tr with
    | done => simp [ordVB] at hB
    | read i t =>
      simp only [ordVB, Bool.and_eq_true, decide_eq_true_eq] at hB
      obtain ⟨⟨⟨hin, hr⟩, hf⟩, hB'⟩ := hB
      obtain ⟨o, ho, v, hy, hK⟩ := h
      have hi := hnth i o ho
      have hr' : i ∈ Region.ready md ops listed := by simpa using hr
      exact wpAnyN_first hi (Region.noSelect_spec hsel) hQ hs hc hn hin (fun listed' a' w' hL => seqB_ready hL.1) f S listed a w inv (Region.free_spec hi hf) hr' hy hS
        (ih t S _ _ w (inv.set hr' hin) hB' hS hK)
    | stir i t =>
      simp only [ordVB, Bool.and_eq_true, decide_eq_true_eq] at hB
      obtain ⟨⟨hin, hr⟩, hB'⟩ := hB
      obtain ⟨o, ho, hK⟩ := h
      have hr : Region.ready md ops listed = [i] := by simpa using hr
      refine ⟨by rw [hr]; simp, fun j hj => ?_⟩
      have hji : j = i := by rw [hr] at hj; simpa using hj
      subst hji
      exact ⟨hin, wpOp_stirT (hnth j o ho) hK fun S' a' w' hS' hW => ih t S' _ a' w' (inv.set hj hin) hB' hS' hW⟩
    | fork i t j u =>
      simp only [ordVB, Bool.and_eq_true, decide_eq_true_eq] at hB
      obtain ⟨⟨⟨⟨hin, hjn⟩, hr⟩, hB1⟩, hB2⟩ := hB
      obtain ⟨⟨o, ho, hK⟩, ⟨o', ho', hK'⟩⟩ := h
      have hr : Region.ready md ops listed = [i, j] := by simpa using hr
      refine ⟨by rw [hr]; simp, fun k hk => ?_⟩
      have hkk : k = i ∨ k = j := by rw [hr] at hk; simpa using hk
      by_cases e : k = i
      · subst e
        exact ⟨hin, wpOp_stirT (hnth k o ho) hK fun S' a' w' hS' hW => ih t S' _ a' w' (inv.set hk hin) hB1 hS' hW⟩
      · have e2 : k = j := hkk.resolve_left e
        subst e2
        exact ⟨hjn, wpOp_stirT (hnth k o' ho') hK' fun S' a' w' hS' hW => ih u S' _ a' w' (inv.set hk hjn) hB2 hS' hW⟩
    | fork3 i t j u k v =>
      simp only [ordVB, Bool.and_eq_true, decide_eq_true_eq] at hB
      obtain ⟨⟨⟨⟨⟨⟨hin, hjn⟩, hkn⟩, hr⟩, hB1⟩, hB2⟩, hB3⟩ := hB
      obtain ⟨⟨o, ho, hK⟩, ⟨o', ho', hK'⟩, ⟨o2, ho2, hK2⟩⟩ := h
      have hr : Region.ready md ops listed = [i, j, k] := by simpa using hr
      refine ⟨by rw [hr]; simp, fun q hq => ?_⟩
      have hkk : q = i ∨ q = j ∨ q = k := by rw [hr] at hq; simpa using hq
      by_cases e : q = i
      · subst e
        exact ⟨hin, wpOp_stirT (hnth q o ho) hK fun S' a' w' hS' hW => ih t S' _ a' w' (inv.set hq hin) hB1 hS' hW⟩
      · by_cases e2 : q = j
        · subst e2
          exact ⟨hjn, wpOp_stirT (hnth q o' ho') hK' fun S' a' w' hS' hW => ih u S' _ a' w' (inv.set hq hjn) hB2 hS' hW⟩
        · have e3 : q = k := (hkk.resolve_left e).resolve_left e2
          subst e3
          exact ⟨hkn, wpOp_stirT (hnth q o2 ho2) hK2 fun S' a' w' hS' hW => ih v S' _ a' w' (inv.set hq hkn) hB3 hS' hW⟩
def ordVreeB (md : Region.Mode) (ops : Array Oper) (n : Nat) (tr : OrdV) : Bool :=
  Region.noSelect ops && decide (n < ops.size) && Region.sinkB md ops n && Region.chainB md ops n && ordVB md ops n (ops.size - n) n tr (Array.replicate ops.size false)
theorem wp_region_ordV {id : Nat} {a : Act} {w : World} {l : List Oper} (n : Nat) (tr : OrdV) (hm : P.follows .mixedOrders = true) (hB : ordVreeB .any l.toArray n tr = true)
    (hQ : ∀ c t t' d w, Q (.panic c) ⟨t, d⟩ w → Q (.panic c) ⟨t', d⟩ w)
    (h : wpOrdV P l.toArray Q l (fun a' w' => wpList P l.toArray Q (l.drop n) a' w') tr (Ext w.drew) a w.drew) : (Code.region id l.toArray true).wp P Q a w := by
  simp only [ordVreeB, Bool.and_eq_true, decide_eq_true_eq] at hB
  obtain ⟨⟨⟨⟨hsel, hn⟩, hs⟩, hc⟩, hord⟩ := hB
  have hn' : n < l.length := by simpa using hn
  have hdl : (l.drop n).length = l.toArray.size - n := by simp
  have inv0 : HeadInv .any l.toArray n (Array.replicate l.toArray.size false) :=
    ⟨by simp, fun j oj _ hl => (by rw [getD_replicate_false] at hl; cases hl), fun t _ ht => _root_.Go.getD_in (by simpa using ht) (getD_replicate_false _ _)⟩
  have H := wpAnyN_ordV (md := .any) (g := l.toArray.size - n) (Lq := fun a' w' => wpList P l.toArray Q (l.drop n) a' w') rfl hsel hQ hs hc hn n tr (Ext w.drew) _ a w.drew inv0 hord (Ext.refl _) h
  refine wp_region_any hm ?_
  have := wpAny_of_N (Q := Q) (g := l.toArray.size - n) (fun listed a' w' hL => by
    have := wpAny_of_seq (md := .any) (Q' := Q) (l.drop n) n listed a' w' (fun j => by simp [List.getElem?_drop]) (by rw [hdl]; exact hL.1) hL.2
    rwa [hdl] at this) _ _ _ _ _ H
  rw [show n + (l.toArray.size - n) = l.toArray.size by simp; omega] at this
  exact this
theorem wpOrdV_read {l : List Oper} {L : Act → World → Prop} {i : Nat} {t : OrdV} {o : Oper} {S : World → Prop} {a : Act} {w : World} {v : Value} (ho : nthO l i = some o) (hy : YieldsIf P ops S o v a) (h : wpOrdV P ops Q l L t S (a.put o.dst v) w) : wpOrdV P ops Q l L (.read i t) S a w :=
  ⟨o, ho, v, hy, h⟩
/-- One that stirs, and leaves a world of the same class. -/
theorem wpOrdV_keep {l : List Oper} {L : Act → World → Prop} {i : Nat} {t : OrdV} {o : Oper} {S : World → Prop} {w : World} {a : Act} (ho : nthO l i = some o)
    (h : ∀ K : Act → World → Prop, (∀ a' w', S w' → wpOrdV P ops Q l L t S a' w' → K a' w') → if Region.wanted o (yielded ops a.tmps) = true then Oper.wp P o a w K Q else K (a.put o.dst undef) w) : wpOrdV P ops Q l L (.stir i t) S a w :=
  ⟨o, ho, fun K hK => h K fun a' w' hS hW => hK S a' w' (fun _ hx => hx) hS hW⟩
/-- Where two may come up, a class for each. -/
theorem wpOrdV_forks {l : List Oper} {L : Act → World → Prop} {i j : Nat} {t u : OrdV} {o o' : Oper} {S : World → Prop} {w : World} {a : Act} (ho : nthO l i = some o) (ho' : nthO l j = some o')
    (h : ∀ K : Act → World → Prop, (∀ (S' : World → Prop) a' w', (∀ x, S' x → S x) → S' w' → wpOrdV P ops Q l L t S' a' w' → K a' w') → if Region.wanted o (yielded ops a.tmps) = true then Oper.wp P o a w K Q else K (a.put o.dst undef) w)
    (h' : ∀ K : Act → World → Prop, (∀ (S' : World → Prop) a' w', (∀ x, S' x → S x) → S' w' → wpOrdV P ops Q l L u S' a' w' → K a' w') → if Region.wanted o' (yielded ops a.tmps) = true then Oper.wp P o' a w K Q else K (a.put o'.dst undef) w) : wpOrdV P ops Q l L (.fork i t j u) S a w :=
  ⟨⟨o, ho, h⟩, ⟨o', ho', h'⟩⟩
/-- Where three may come up. -/
theorem wpOrdV_fork3 {l : List Oper} {L : Act → World → Prop} {i j k : Nat} {t u v : OrdV} {o o' o2 : Oper} {S : World → Prop} {w : World} {a : Act} (ho : nthO l i = some o) (ho' : nthO l j = some o') (ho2 : nthO l k = some o2)
    (h : ∀ K : Act → World → Prop, (∀ (S' : World → Prop) a' w', (∀ x, S' x → S x) → S' w' → wpOrdV P ops Q l L t S' a' w' → K a' w') → if Region.wanted o (yielded ops a.tmps) = true then Oper.wp P o a w K Q else K (a.put o.dst undef) w)
    (h' : ∀ K : Act → World → Prop, (∀ (S' : World → Prop) a' w', (∀ x, S' x → S x) → S' w' → wpOrdV P ops Q l L u S' a' w' → K a' w') → if Region.wanted o' (yielded ops a.tmps) = true then Oper.wp P o' a w K Q else K (a.put o'.dst undef) w)
    (h2 : ∀ K : Act → World → Prop, (∀ (S' : World → Prop) a' w', (∀ x, S' x → S x) → S' w' → wpOrdV P ops Q l L v S' a' w' → K a' w') → if Region.wanted o2 (yielded ops a.tmps) = true then Oper.wp P o2 a w K Q else K (a.put o2.dst undef) w) : wpOrdV P ops Q l L (.fork3 i t j u k v) S a w :=
  ⟨⟨o, ho, h⟩, ⟨o', ho', h'⟩, ⟨o2, ho2, h2⟩⟩
theorem wpOrdV_done {l : List Oper} {L : Act → World → Prop} {S : World → Prop} {a : Act} {w : World} (h : L a w) : wpOrdV P ops Q l L .done S a w := h
end
end Go.Proofs.YtapjofbjedpmgaaGreat
end
