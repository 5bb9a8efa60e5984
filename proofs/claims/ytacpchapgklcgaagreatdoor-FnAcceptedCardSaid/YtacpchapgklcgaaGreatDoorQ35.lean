/- Contract of the program's check of a proof by backward search, and that it is sound.
Plain words on automata beside a machine: abstractions of configurations, and the abstractions to which one leads. -/
import Derived.Test.YtacpchapgklcgaaGreatDoorQ25
import Derived.Test.YtacpchapgklcgaaGreatDoorQ34
import Derived.Test.YtacpchapgklcgaaGreatDoorQ11
import Derived.Deep.RegionLaw
import Derived.Test.YtacpchapgklcgaaGreatDoorQ26
section
set_option linter.unusedSimpArgs false
set_option linter.unusedVariables false
namespace Go.Proofs.YtacpchapgklcgaaGreatDoor
open Go Go.RowKit Go.Proofs
set_option maxHeartbeats 400000
theorem Sizes.det {m : MachD} {n : Nat} {l : List PartD} {s : Int} {zs : List Int} (h : Sizes m n l s zs) : ∀ {l' : List PartD} {s' : Int} {zs' : List Int}, Sizes m n l' s' zs' → l' = l ∧ s' = s ∧ zs' = zs := by
  induction h with
  | zero => intro l' s' zs' h'; cases h'; exact ⟨rfl, rfl, rfl⟩
  | next h0 hl hn ih =>
    intro l' s' zs' h'
    cases h' with
    | next g0 gl gn =>
      obtain ⟨rfl, rfl, rfl⟩ := ih g0
      rw [hn] at gn
      injection gn with gn
      injection gn with e1 e2
      subst e1 e2
      exact ⟨rfl, rfl, rfl⟩
theorem Sizes.cut {m : MachD} {n : Nat} {l : List PartD} {s : Int} {zs : List Int} (h : Sizes m n l s zs) : ∀ k, k < n → ∃ l' s' zs', Sizes m k l' s' zs' ∧ 0 < l'.length ∧ ¬ nextP m l' s' = none := by
  induction h with
  | zero => intro k hk; omega
  | @next n l s l' s' zs h0 hl hn ih =>
    intro k hk
    by_cases e : k = n
    · subst e
      exact ⟨l, s, zs, h0, hl, by rw [hn]; simp⟩
    · exact ih k (by omega)
/-- Where two runs of levels end. -/
theorem Sizes.empty_uniq {m : MachD} {n n' : Nat} {l l' : List PartD} {s s' : Int} {zs zs' : List Int} (h : Sizes m n l s zs) (h' : Sizes m n' l' s' zs') (h0 : l'.length = 0) : n ≤ n' := by
  rcases Nat.lt_or_ge n' n with c | c
  · obtain ⟨l2, s2, z2, g1, g2, _⟩ := h.cut n' c
    obtain ⟨rfl, _, _⟩ := g1.det h'
    omega
  · exact c
def CbYes (m : MachD) (p : ProofD) : Prop := pOfB m p 4 1 = true ∧ inB (p.ns.getD 0 0) 0 60 = true ∧ (haltP m).length ≤ 300 ∧ (∃ n l s zs, n ≤ (p.ns.getD 0 0).toNat ∧ Sizes m n l s zs ∧ l.length = 0) ∧ ¬ ∃ T, T < (p.ns.getD 0 0).toNat ∧ HaltsAt m T
theorem CbYes.sound {m : MachD} {p : ProofD} (h : CbYes m p) (T : Nat) : ¬ HaltsAt m T := by
  obtain ⟨h1, h2, h3, ⟨n, l, s, zs, hn, hs, hl⟩, hno⟩ := h
  intro ht
  have hm : machOk m = true := by simp only [pOfB, Bool.and_eq_true] at h1; exact h1.1.1.1.1
  have hf := (hs.facts hm).2.2.2.2
  have hz : l = [] := List.eq_nil_of_length_eq_zero hl
  subst hz
  have := chain_empty hm (haltsAt_run hm ht) hf
  exact hno ⟨T, by omega, ht⟩
def CbRes (w : World) (m : MachD) (p : ProofD) (e : Ending) (w' : World) : Prop := ∃ r : Bool, e = .returned (.bool r) ∧ (r = true ↔ CbYes m p) ∧ Ext w w'
set_option maxRecDepth 20000 in
set_option maxHeartbeats 2000000 in
theorem CheckBackward_c (v u : Value) (m : MachD) (p : ProofD) (w : World) (hm : Mach w v m) (hp : Prf w u p) (hT : Tab w) :
    Calls Tryz.prog 8 #[v, u] w (CbRes w m p) := by
  obtain ⟨rv, rfl, hr⟩ := hm
  obtain ⟨nv, wv, rfl, hn, hw⟩ := hp
  obtain ⟨Ar, cr, rfl, _, _⟩ := hr.form
  obtain ⟨An, cn, rfl, _, _⟩ := hn.form
  obtain ⟨Aw, cw, rfl, _, _⟩ := hw.form
  have hx0 := (Ext.alloc w (.cells #[.int .i64 m.sy, .int .i64 m.st, .slice Ar m.rules.length cr] 26)).trans (Ext.alloc _ (.cells #[.int .i64 p.k, .slice An p.ns.length cn, .slice Aw p.ws.length cw] 36))
  have bM := (Blk.new w w.heap.size 26 #[.int .i64 m.sy, .int .i64 m.st, .slice Ar m.rules.length cr] rfl).alloc (.cells #[.int .i64 p.k, .slice An p.ns.length cn, .slice Aw p.ws.length cw] 36)
  have bP := Blk.new (w.alloc (.cells #[.int .i64 m.sy, .int .i64 m.st, .slice Ar m.rules.length cr] 26)) (w.heap.size + 1) 36 #[.int .i64 p.k, .slice An p.ns.length cn, .slice Aw p.ws.length cw] (by simp)
  go_enter Tryz.func8, Tryz.ntmps8
  go_wp2_with fail
  refine (proofOf_c _ _ m p 4 1 _ ⟨_, rfl, hr.ext hx0⟩ ⟨_, _, rfl, hn.ext hx0, hw.ext hx0⟩).mono ?_
  rintro e w1 ⟨rfl, hx1⟩
  have hX1 := hx0.trans hx1
  cases h1 : pOfB m p 4 1 with
  | false =>
    have HE : Hid ((false = true) ↔ CbYes m p) := Lib.hid ⟨fun h => (by cases h), fun h => by have := h.1; rw [h1] at this; cases this⟩
    clear h1
    go_wp2
    go_ret
    exact ⟨false, rfl, HE.out, hX1⟩
  | true =>
    have H1 := Lib.hid h1
    have hmok : machOk m = true := by simp only [pOfB, Bool.and_eq_true] at h1; exact h1.1.1.1.1
    have hl1 : p.ns.length = 1 := by
      simp only [pOfB, Bool.and_eq_true, beq_iff_eq] at h1
      omega
    have hl0 : 0 < p.ns.length := by omega
    clear h1
    obtain ⟨b', off, rfl, hc⟩ := (hn.ext hX1).at hl0
    have d0 : w1.cell? ⟨b', off, none⟩ = some (.int .i64 p.ns[0]) := hc 0 hl0
    have HZ : Hid (p.ns.getD 0 0 = p.ns[0]) := by unfold Hid; rw [List.getD_eq_getElem?_getD, List.getElem?_eq_getElem hl0]; rfl
    have bM1 := bM.ext hx1
    have bP1 := bP.ext hx1
    have c0 := bM1.cell 0
    have c1 := bM1.cell 1
    have c2 := bM1.cell 2
    have e1 := bP1.cell 1
    simp only [List.getElem?_toArray, List.getElem?_cons_zero, List.getElem?_cons_succ] at c0 c1 c2 e1
    have hi0 : (0 : Int) < (p.ns.length : Int) := by omega
    clear hc hl1
    generalize p.ns[0] = z at *
    go_wp2_with fail
    refine (within_c _ _ _ _).mono ?_
    rintro e w' ⟨rfl, rfl⟩
    cases hz : inB z 0 60 with
    | false =>
      have HE : Hid ((false = true) ↔ CbYes m p) := Lib.hid ⟨fun h => (by cases h), fun h => by have := h.2.1; rw [HZ.out, hz] at this; cases this⟩
      clear hz
      go_wp2
      go_ret
      exact ⟨false, rfl, HE.out, hX1⟩
    | true =>
      obtain ⟨d, rfl⟩ : ∃ d : Nat, z = (d : Int) := ⟨z.toNat, by simp [inB] at hz; omega⟩
      have hd : d ≤ 60 := by simp [inB] at hz; omega
      have HY : Hid (CbYes m p ↔ (haltP m).length ≤ 300 ∧ (∃ n l s zs, n ≤ d ∧ Sizes m n l s zs ∧ l.length = 0) ∧ ¬ ∃ T, T < d ∧ HaltsAt m T) := by
        unfold Hid CbYes
        rw [HZ.out, H1.out, hz]
        simp
      clear hz
      have hT1 : Tab w1.drew := (hT.below hT.low hX1).ext (Ext.drew _)
      have hr1 := (hr.ext hX1).ext (Ext.drew _)
      have hbl := backwardLevels_c m (.slice Ar m.rules.length cr) d w1.drew hr1 hmok hT1 hd
      go_wp2_with fail
      refine wp_region_ordT 10 (readsT [0, 1, 2, 3, 4] (.stir 5 (readsT [6, 7, 8, 9] .done))) (by kernel_rfl) (by kernel_rfl) (fun _ _ _ _ _ h => h) ?_
      simp only [readsT]
      repeat (refine wpOrdT_read (v := ?_) (by rfl) (Or.inl ⟨by rfl, fun x hx => ?_⟩) ?_; rotate_left; (· have a1 := hx.cell ((Ext.drew w1).cell c0); have a2 := hx.cell ((Ext.drew w1).cell c1); have a3 := hx.cell ((Ext.drew w1).cell c2); have a4 := hx.cell ((Ext.drew w1).cell e1); have a5 := hx.cell ((Ext.drew w1).cell d0); go_simp; try with_reducible rfl); try simp only [Act.put, List.setIfInBounds_toArray, List.set_cons_zero, List.set_cons_succ])
      refine wpOrdT_keep (by rfl) (fun K hK => ?_)
      go_simp
      go_at_call 25
      refine hbl.mono ?_
      rintro e w2 ⟨hx2, ⟨rfl, hbad⟩ | ⟨h300, n, l, s, zs, uv, hnd, hS, hend, rfl, hown⟩⟩
      · refine hK _ _ hx2 ?_
        clear hK K
        repeat (refine wpOrdT_read (v := ?_) (by rfl) (Or.inl ⟨by rfl, fun x hx => ?_⟩) ?_; rotate_left; (· go_simp; try with_reducible rfl); try simp only [Act.put, List.setIfInBounds_toArray, List.set_cons_zero, List.set_cons_succ])
        refine wpOrdT_done ?_
        try simp only [List.drop_succ_cons, List.drop_zero]
        have HE : Hid ((false = true) ↔ CbYes m p) := Lib.hid ⟨fun h => (by cases h), fun h => by
          obtain ⟨g1, ⟨n', l', s', z', gn, gs, gl⟩, _⟩ := HY.out.1 h
          rcases hbad with hb | ⟨_, n, l, s, zs, bn, bs, bl, bx⟩
          · omega
          · have hnn := bs.empty_uniq gs gl
            by_cases e : n = n'
            · subst e
              obtain ⟨rfl, _, _⟩ := bs.det gs
              omega
            · obtain ⟨l2, s2, z2, k1, k2, k3⟩ := gs.cut n (by omega)
              obtain ⟨rfl, rfl, _⟩ := bs.det k1
              exact absurd bx k3⟩
        have HX := Lib.hid ((hX1.trans (Ext.drew _)).trans (hx2.trans (Ext.drew _)))
        clear hbad hbl hr1 hT1
        go_wp2_with fail
        refine wp_region_ordT 17 (readsT [0, 1, 2, 3, 4, 5, 6, 7, 8, 9, 10, 11, 12, 13, 14, 15, 16] .done) (by kernel_rfl) (by kernel_rfl) (fun _ _ _ _ _ h => h) ?_
        simp only [readsT]
        iterate 3 (refine wpOrdT_read (v := ?_) (by rfl) (Or.inl ⟨by rfl, fun x hx => ?_⟩) ?_; rotate_left; (· go_simp; try with_reducible rfl); try simp only [Act.put, List.setIfInBounds_toArray, List.set_cons_zero, List.set_cons_succ])
        iterate 7 (refine wpOrdT_read (v := undef) (by rfl) (Or.inr ⟨by rfl, by rfl⟩) ?_; try simp only [Act.put, List.setIfInBounds_toArray, List.set_cons_zero, List.set_cons_succ])
        iterate 2 (refine wpOrdT_read (v := ?_) (by rfl) (Or.inl ⟨by rfl, fun x hx => ?_⟩) ?_; rotate_left; (· go_simp; try with_reducible rfl); try simp only [Act.put, List.setIfInBounds_toArray, List.set_cons_zero, List.set_cons_succ])
        iterate 5 (refine wpOrdT_read (v := undef) (by rfl) (Or.inr ⟨by rfl, by rfl⟩) ?_; try simp only [Act.put, List.setIfInBounds_toArray, List.set_cons_zero, List.set_cons_succ])
        refine wpOrdT_done ?_
        try simp only [List.drop_succ_cons, List.drop_zero]
        go_wp2
        exact bodyPost_ret (v := .bool false) (by simp [results, Tryz.results8, go_sem]) rfl ⟨false, rfl, HE.out, HX.out⟩
      · have hf := hS.facts hmok
        have hzl := hf.2.2.1
        have hzn := hf.2.2.2.1
        obtain ⟨Au, cu, rfl, hcu1, hcu2⟩ := hown.ints.form
        obtain ⟨b2, off2, rfl, hc2⟩ := hown.ints.at (k := n) (by omega)
        have f0 := hc2 n (by omega)
        rw [show zs[n]'(by omega) = (l.length : Int) by rw [List.getElem?_eq_getElem (by omega)] at hzn; injection hzn] at f0
        refine hK _ _ hx2 ?_
        clear hK K
        repeat (refine wpOrdT_read (v := ?_) (by rfl) (Or.inl ⟨by rfl, fun x hx => ?_⟩) ?_; rotate_left; (· go_simp; try with_reducible rfl); try simp only [Act.put, List.setIfInBounds_toArray, List.set_cons_zero, List.set_cons_succ])
        refine wpOrdT_done ?_
        try simp only [List.drop_succ_cons, List.drop_zero]
        have hXD := (Ext.drew w1).trans (hx2.trans (Ext.drew w2))
        have HX := Lib.hid (hX1.trans hXD)
        have hr2 := hr1.ext (hx2.trans (Ext.drew w2))
        have c0' := hXD.cell c0
        have c1' := hXD.cell c1
        have c2' := hXD.cell c2
        have e1' := hXD.cell e1
        have d0' := hXD.cell d0
        have f0' := (Ext.drew w2).cell f0
        have hz1 : (zs.length : Int) - 1 = (n : Int) := by omega
        have hz2 : (n : Int) < (zs.length : Int) := by omega
        have hz3 : (0 : Int) ≤ (n : Int) := by omega
        have hz4 : (n : Int) < (n : Int) + 1 := by omega
        have hwn : IntKind.i64.wrap (n : Int) = (n : Int) := IntWalk.i64_in _ (by omega)
        have HHB := Lib.hid (haltsBefore_c w2.drew m (.slice Ar m.rules.length cr) d hr2 hmok (by omega))
        have HS := Lib.hid hS
        have HEN := Lib.hid hend
        clear hf hzn hbl hr1 hT1 hc2 hown hS hend f0 hx2 c0 c1 c2 e1 d0
        generalize hll : l.length = L at *
        have HLL := Lib.hid hll
        clear hll
        go_wp2_with fail
        refine wp_region_ordT 17 (readsT [0, 1, 2, 3, 4, 5, 6, 7, 8, 9, 10, 11, 12, 13, 14, 15, 16] .done) (by kernel_rfl) (by kernel_rfl) (fun _ _ _ _ _ h => h) ?_
        simp only [readsT]
        iterate 6 (refine wpOrdT_read (v := ?_) (by rfl) (Or.inl ⟨by rfl, fun x hx => ?_⟩) ?_; rotate_left; (· go_simp; try with_reducible rfl); try simp only [Act.put, List.setIfInBounds_toArray, List.set_cons_zero, List.set_cons_succ])
        refine wpOrdT_read (v := .int .i64 (n : Int)) (by rfl) (Or.inl ⟨by rfl, fun x hx => ?_⟩) ?_
        · go_simp; try simp only [hz1, hwn]; try with_reducible rfl
        try simp only [Act.put, List.setIfInBounds_toArray, List.set_cons_zero, List.set_cons_succ]
        iterate 2 (refine wpOrdT_read (v := ?_) (by rfl) (Or.inl ⟨by rfl, fun x hx => ?_⟩) ?_; rotate_left; (· have a6 := hx.cell f0'; go_simp; try with_reducible rfl); try simp only [Act.put, List.setIfInBounds_toArray, List.set_cons_zero, List.set_cons_succ])
        by_cases hL0 : L = 0
        · subst hL0
          iterate 8 (refine wpOrdT_read (v := ?_) (by rfl) (Or.inl ⟨by rfl, fun x hx => ?_⟩) ?_; rotate_left; (· have a1 := hx.cell c0'; have a2 := hx.cell c1'; have a3 := hx.cell c2'; have a4 := hx.cell e1'; have a5 := hx.cell d0'; go_simp; try with_reducible rfl); try simp only [Act.put, List.setIfInBounds_toArray, List.set_cons_zero, List.set_cons_succ])
          refine wpOrdT_done ?_
          try simp only [List.drop_succ_cons, List.drop_zero]
          go_wp2_with fail
          refine HHB.out.mono ?_
          rintro e w3 ⟨r, rfl, hrr, hx3⟩
          have HE : Hid (((!r) = true) ↔ CbYes m p) := Lib.hid (by
            rw [HY.out]
            constructor
            · intro h
              have hr0 : r = false := by simpa using h
              refine ⟨h300, ⟨n, l, s, zs, hnd, HS.out, HLL.out⟩, fun hh => ?_⟩
              have := hrr.2 hh
              rw [hr0] at this
              cases this
            · rintro ⟨_, _, h⟩
              cases r
              · rfl
              · exact absurd (hrr.1 rfl) h)
          have HX3 := Lib.hid (HX.out.trans hx3)
          clear hrr
          cases r
          · go_wp2
            exact bodyPost_ret (v := .bool true) (by simp [results, Tryz.results8, go_sem]) rfl ⟨true, rfl, HE.out, HX3.out⟩
          · go_wp2
            exact bodyPost_ret (v := .bool false) (by simp [results, Tryz.results8, go_sem]) rfl ⟨false, rfl, HE.out, HX3.out⟩
        · have hLb : ((L : Int) == 0) = false := by simp; omega
          have hLd : decide ((L : Int) = 0) = false := by simp; omega
          have HE : Hid ((false = true) ↔ CbYes m p) := Lib.hid ⟨fun h => (by cases h), fun h => by
            obtain ⟨g1, ⟨n', l', s', z', gn, gs, gl⟩, _⟩ := HY.out.1 h
            have hnn := HS.out.empty_uniq gs gl
            have hLL := HLL.out
            rcases HEN.out with e | e
            · have e2 : n = n' := by omega
              subst e2
              obtain ⟨rfl, _, _⟩ := HS.out.det gs
              omega
            · omega⟩
          refine wpOrdT_read (v := .bool false) (by rfl) (Or.inl ⟨by rfl, fun x hx => ?_⟩) ?_
          · go_simp; try simp only [hLb, hLd]; try with_reducible rfl
          try simp only [Act.put, List.setIfInBounds_toArray, List.set_cons_zero, List.set_cons_succ]
          iterate 2 (refine wpOrdT_read (v := ?_) (by rfl) (Or.inl ⟨by rfl, fun x hx => ?_⟩) ?_; rotate_left; (· go_simp; try with_reducible rfl); try simp only [Act.put, List.setIfInBounds_toArray, List.set_cons_zero, List.set_cons_succ])
          iterate 5 (refine wpOrdT_read (v := undef) (by rfl) (Or.inr ⟨by rfl, by rfl⟩) ?_; try simp only [Act.put, List.setIfInBounds_toArray, List.set_cons_zero, List.set_cons_succ])
          refine wpOrdT_done ?_
          try simp only [List.drop_succ_cons, List.drop_zero]
          go_wp2
          exact bodyPost_ret (v := .bool false) (by simp [results, Tryz.results8, go_sem]) rfl ⟨false, rfl, HE.out, HX.out⟩
end Go.Proofs.YtacpchapgklcgaaGreatDoor
end
section
set_option linter.unusedSimpArgs false
set_option linter.unusedVariables false
set_option linter.unusedSectionVars false
namespace Go.Proofs.YtacpchapgklcgaaGreatDoor
open Go Go.RowKit Go.Proofs
/-- An automaton. -/
structure DfaD where
  st : Int
  nx : List Int
deriving DecidableEq
def dfaOk (d : DfaD) (sy : Int) : Bool := inB sy 2 6 && inB d.st 1 20 && decide ((d.nx.length : Int) = d.st * sy) && (d.nx.all fun z => inB z 0 (d.st - 1)) && (d.nx.getD 0 0 == 0)
def toD (d : DfaD) (s x sy : Int) : Int := d.nx.getD (s * sy + x).toNat 0
def runD (d : DfaD) (sy : Int) (w : List Int) : Int := w.foldl (fun s x => toD d s x sy) 0
abbrev Outl := Int × Int × Int × Int
theorem hdD_push (s : Int) (xs : List Int) : hdD (pushL s xs) = s := by
  unfold pushL
  split
  · rename_i h; rw [h.1]; rfl
  · rfl
theorem drop_push (s : Int) (xs : List Int) : (pushL s xs).drop 1 = xs := by
  unfold pushL
  split
  · rename_i h; rw [h.2]; rfl
  · rfl
/-- The abstraction of a configuration. -/
def ofA (m : MachD) (L R : DfaD) (c : ConfD) : Outl := (runD L m.sy c.l.reverse, c.q, hdD c.r, runD R m.sy (c.r.drop 1).reverse)
/-- The states from which a symbol leads to a state, with the symbols. -/
def orgD (d : DfaD) (t sy : Int) : List (Int × Int) := (List.range d.nx.length).filterMap fun k => if d.nx.getD k 0 = t then some ((k : Int) / sy, (k : Int) % sy) else none
/-- The abstractions to which one leads. -/
def succA (m : MachD) (L R : DfaD) (a : Outl) : List Outl :=
  let r := m.rules.getD (a.2.1 * m.sy + a.2.2.1).toNat noR
  if isR r then
    if r.m = 1 then (orgD R a.2.2.2 m.sy).map fun p => (toD L a.1 r.w m.sy, r.n, p.2, p.1)
    else (orgD L a.1 m.sy).map fun p => (p.1, r.n, p.2, toD R a.2.2.2 r.w m.sy)
  else []
theorem dfaOk_parts {d : DfaD} {sy : Int} (h : dfaOk d sy = true) : (2 ≤ sy ∧ sy ≤ 6) ∧ (1 ≤ d.st ∧ d.st ≤ 20) ∧ (d.nx.length : Int) = d.st * sy ∧ (∀ z ∈ d.nx, 0 ≤ z ∧ z < d.st) ∧ d.nx.getD 0 0 = 0 := by
  simp only [dfaOk, inB, Bool.and_eq_true, decide_eq_true_eq, List.all_eq_true, beq_iff_eq] at h
  refine ⟨by omega, by omega, h.1.1.2, fun z hz => ?_, h.2⟩
  have := h.1.2 z hz
  omega
section
variable {d : DfaD} {sy : Int} (h : dfaOk d sy = true)
include h
theorem dfa_idx {s x : Int} (s0 : 0 ≤ s) (s1 : s < d.st) (x0 : 0 ≤ x) (x1 : x < sy) : ∃ k : Nat, k < d.nx.length ∧ s * sy + x = (k : Int) ∧ (k : Int) / sy = s ∧ (k : Int) % sy = x := by
  obtain ⟨h1, h2, hl, _, _⟩ := dfaOk_parts h
  have e1 := Int.mul_nonneg s0 (show 0 ≤ sy by omega)
  have e2 : s * sy + sy ≤ d.st * sy := by
    have := Int.mul_le_mul_of_nonneg_right (show s + 1 ≤ d.st from s1) (show 0 ≤ sy by omega)
    rw [Int.add_mul, Int.one_mul] at this
    exact this
  refine ⟨(s * sy + x).toNat, by omega, by omega, ?_, ?_⟩
  · rw [Int.toNat_of_nonneg (by omega), Int.add_comm, Int.add_mul_ediv_right _ _ (by omega), Int.ediv_eq_zero_of_lt x0 x1, Int.zero_add]
  · rw [Int.toNat_of_nonneg (by omega), Int.add_comm, Int.add_mul_emod_self_right, Int.emod_eq_of_lt x0 x1]
theorem toD_range {s x : Int} (s0 : 0 ≤ s) (s1 : s < d.st) (x0 : 0 ≤ x) (x1 : x < sy) : 0 ≤ toD d s x sy ∧ toD d s x sy < d.st := by
  obtain ⟨_, _, _, ha, _⟩ := dfaOk_parts h
  obtain ⟨k, hk, e, _, _⟩ := dfa_idx h s0 s1 x0 x1
  unfold toD
  rw [e, Int.toNat_natCast, List.getD_eq_getElem?_getD, List.getElem?_eq_getElem hk, Option.getD_some]
  exact ha _ (List.getElem_mem hk)
theorem toD_zero : toD d 0 0 sy = 0 := by
  obtain ⟨_, _, _, _, h0⟩ := dfaOk_parts h
  unfold toD
  simpa using h0
theorem runD_snoc (w : List Int) (x : Int) : runD d sy (w ++ [x]) = toD d (runD d sy w) x sy := by
  unfold runD
  rw [List.foldl_append]
  rfl
theorem runD_cons (x : Int) (w : List Int) : runD d sy (x :: w).reverse = toD d (runD d sy w.reverse) x sy := by
  rw [List.reverse_cons, runD_snoc h]
theorem runD_range {w : List Int} (hw : ∀ z ∈ w, 0 ≤ z ∧ z < sy) : 0 ≤ runD d sy w.reverse ∧ runD d sy w.reverse < d.st := by
  obtain ⟨_, h2, _, _, _⟩ := dfaOk_parts h
  induction w with
  | nil => exact ⟨Int.le_refl _, by show (0 : Int) < d.st; omega⟩
  | cons a l ih =>
    rw [runD_cons h]
    have hi := ih (fun z hz => hw z (List.mem_cons_of_mem _ hz))
    have ha := hw a List.mem_cons_self
    exact toD_range h hi.1 hi.2 ha.1 ha.2
theorem runD_push (s : Int) (w : List Int) : runD d sy (pushL s w).reverse = toD d (runD d sy w.reverse) s sy := by
  unfold pushL
  split
  · rename_i hn
    obtain ⟨rfl, rfl⟩ := hn
    exact (toD_zero h).symm
  · exact runD_cons h s w
/-- The near symbol of a side and the state behind the rest lead to the state behind the side. -/
theorem runD_split {w : List Int} (hw : ∀ z ∈ w, 0 ≤ z ∧ z < sy) : (runD d sy (w.drop 1).reverse, hdD w) ∈ orgD d (runD d sy w.reverse) sy := by
  obtain ⟨h1, _, _, _, h0⟩ := dfaOk_parts h
  have hd : toD d (runD d sy (w.drop 1).reverse) (hdD w) sy = runD d sy w.reverse := by
    cases w with
    | nil => exact toD_zero h
    | cons a l =>
      rw [runD_cons h]
      rfl
  have hr := runD_range h (w := w.drop 1) (fun z hz => hw z (List.mem_of_mem_drop hz))
  have hx := hdD_of hw (by omega)
  obtain ⟨k, hk, e, e1, e2⟩ := dfa_idx h hr.1 hr.2 hx.1 hx.2
  unfold orgD
  rw [List.mem_filterMap]
  refine ⟨k, List.mem_range.2 hk, ?_⟩
  have hg : d.nx.getD k 0 = runD d sy w.reverse := by
    rw [← hd]
    unfold toD
    rw [e, Int.toNat_natCast]
  rw [if_pos hg, e1, e2]
end
section
variable {m : MachD} {L R : DfaD} (hm : machOk m = true) (hL : dfaOk L m.sy = true) (hR : dfaOk R m.sy = true)
include hm hL hR
/-- The abstraction behind a step is one to which the abstraction leads. -/
theorem abs_step {c : ConfD} (hc : IGood m c) (hn : ¬ lookI m c = noR) : ofA m L R (stepI (lookI m c) c) ∈ succA m L R (ofA m L R c) := by
  have hr : isR (lookI m c) = true := by
    cases hh : isR (lookI m c) with
    | true => rfl
    | false => exact absurd (by simpa [isR, rEq] using hh) hn
  have hmv : (lookI m c).m = 1 ∨ (lookI m c).m = -1 := by
    obtain ⟨_, _, hall⟩ := machOk_five hm
    obtain ⟨k, hk, e⟩ := hc.idx hm
    rw [lookI_get hk e] at hn ⊢
    have hq := hall _ (List.getElem_mem hk)
    simp only [ruleOk, hn, decide_false, Bool.false_or, Bool.and_eq_true, Bool.or_eq_true, beq_iff_eq] at hq
    exact hq.1.2
  have hlook : m.rules.getD (c.q * m.sy + hdD c.r).toNat noR = lookI m c := rfl
  unfold succA
  simp only [ofA, hlook]
  rw [if_pos hr]
  generalize lookI m c = r at *
  rcases hmv with e | e
  · rw [if_pos e]
    refine List.mem_map.2 ⟨(runD R m.sy ((c.r.drop 1).drop 1).reverse, hdD (c.r.drop 1)), runD_split hR (fun z hz => hc.r z (List.mem_of_mem_drop hz)), ?_⟩
    have e2 : stepI r c = ⟨r.n, pushL r.w c.l, c.r.drop 1⟩ := by unfold stepI; rw [if_pos (by omega)]
    rw [e2]
    simp only [runD_push hL]
  · rw [if_neg (by omega)]
    refine List.mem_map.2 ⟨(runD L m.sy (c.l.drop 1).reverse, hdD c.l), runD_split hL hc.l, ?_⟩
    have e2 : stepI r c = ⟨r.n, c.l.drop 1, pushL (hdD c.l) (pushL r.w (c.r.drop 1))⟩ := by unfold stepI; rw [if_neg (by omega)]
    rw [e2]
    simp only [hdD_push, drop_push, runD_push hR]
end
/-- A list of abstractions with a further one, where it is new. -/
def addA (l : List Outl) (a : Outl) : List Outl := if a ∈ l then l else l ++ [a]
def foldA (l xs : List Outl) : List Outl := xs.foldl addA l
theorem addA_mem {l : List Outl} {a b : Outl} : b ∈ addA l a ↔ b ∈ l ∨ b = a := by
  unfold addA
  split
  · rename_i h
    constructor
    · exact .inl
    · rintro (h1 | rfl)
      · exact h1
      · exact h
  · simp
theorem addA_nodup {l : List Outl} (h : l.Nodup) (a : Outl) : (addA l a).Nodup := by
  unfold addA
  split
  · exact h
  · rename_i hn
    rw [List.nodup_append]
    refine ⟨h, by simp, fun x hx y hy => ?_⟩
    rw [List.mem_singleton.1 hy]
    intro e
    exact hn (e ▸ hx)
theorem addA_prefix (l : List Outl) (a : Outl) : l <+: addA l a := by
  unfold addA
  split
  · exact List.prefix_rfl
  · exact List.prefix_append _ _
theorem foldA_mem : ∀ {xs l : List Outl} {b : Outl}, b ∈ foldA l xs ↔ b ∈ l ∨ b ∈ xs := by
  intro xs
  induction xs with
  | nil => intro l b; simp [foldA]
  | cons a xs ih =>
    intro l b
    show b ∈ foldA (addA l a) xs ↔ _
    rw [ih, addA_mem, List.mem_cons, or_assoc]
theorem foldA_nodup : ∀ {xs l : List Outl}, l.Nodup → (foldA l xs).Nodup := by
  intro xs
  induction xs with
  | nil => intro l h; exact h
  | cons a xs ih => intro l h; exact ih (addA_nodup h a)
theorem foldA_prefix : ∀ (xs l : List Outl), l <+: foldA l xs := by
  intro xs
  induction xs with
  | nil => intro l; exact List.prefix_rfl
  | cons a xs ih => intro l; exact (addA_prefix l a).trans (ih _)
/-- The list behind k rounds. -/
def rndA (m : MachD) (L R : DfaD) : Nat → List Outl
  | 0 => [(0, 0, 0, 0)]
  | k + 1 => match (rndA m L R k)[k]? with
    | none => rndA m L R k
    | some a => foldA (rndA m L R k) (succA m L R a)
theorem rndA_start (m : MachD) (L R : DfaD) (k : Nat) : (0, 0, 0, 0) ∈ rndA m L R k := by
  induction k with
  | zero => simp [rndA]
  | succ k ih =>
    rw [rndA]
    split
    · exact ih
    · exact foldA_mem.2 (.inl ih)
theorem rndA_prefix (m : MachD) (L R : DfaD) (k : Nat) : rndA m L R k <+: rndA m L R (k + 1) := by
  rw [rndA]
  split
  · exact List.prefix_rfl
  · exact foldA_prefix _ _
theorem rndA_nodup (m : MachD) (L R : DfaD) (k : Nat) : (rndA m L R k).Nodup := by
  induction k with
  | zero => simp [rndA]
  | succ k ih =>
    rw [rndA]
    split
    · exact ih
    · exact foldA_nodup ih
theorem rndA_done {m : MachD} {L R : DfaD} {k : Nat} : ∀ {i : Nat} {a : Outl}, i < k → (rndA m L R k)[i]? = some a → ∀ b ∈ succA m L R a, b ∈ rndA m L R k := by
  induction k with
  | zero => intro i a hi; omega
  | succ k ih =>
    intro i a hi ha b hb
    have hp := rndA_prefix m L R k
    by_cases hik : i < k
    · by_cases hlen : i < (rndA m L R k).length
      · have ha' : (rndA m L R k)[i]? = some a := by
          rw [← ha]
          obtain ⟨t, ht⟩ := hp
          rw [← ht, List.getElem?_append_left hlen]
        exact hp.subset (ih hik ha' b hb)
      · have hz : (rndA m L R k)[k]? = none := List.getElem?_eq_none (by omega)
        have he : rndA m L R (k + 1) = rndA m L R k := by rw [rndA, hz]
        rw [he] at ha ⊢
        exact ih hik ha b hb
    · obtain rfl : i = k := by omega
      by_cases hlen : i < (rndA m L R i).length
      · have ha' : (rndA m L R i)[i]? = some a := by
          rw [← ha]
          obtain ⟨t, ht⟩ := hp
          rw [← ht, List.getElem?_append_left hlen]
        rw [rndA, ha']
        exact foldA_mem.2 (.inr hb)
      · have hz : (rndA m L R i)[i]? = none := List.getElem?_eq_none (by omega)
        have he : rndA m L R (i + 1) = rndA m L R i := by rw [rndA, hz]
        rw [he, hz] at ha
        cases ha
end Go.Proofs.YtacpchapgklcgaaGreatDoor
end
