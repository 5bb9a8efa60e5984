/- Contract of the program's test whether a machine halts ahead of so many steps.
Contract of the program's check of a proof by backward search, and that it is sound.
Contracts of the program's search for a proof by backward search, and that what is found is accepted. -/
import Derived.Test.YtacpchapgklcgaaGreatDoorR29
import Derived.Test.YtacpchapgklcgaaGreatDoorR30
import Derived.Test.YtacpchapgklcgaaGreatDoorR19
import Derived.Test.YtacpchapgklcgaaGreatDoorR27
import Derived.Test.YtacpchapgklcgaaGreatDoorR23
import Derived.Deep.RegionLaw
import Derived.Test.YtacpchapgklcgaaGreatDoorR06
import Derived.Test.YtacpchapgklcgaaGreatDoorR25
section
set_option linter.unusedSimpArgs false
set_option linter.unusedVariables false
namespace Go.Proofs.YtacpchapgklcgaaGreatDoor
open Go Go.RowKit Go.Proofs
set_option maxHeartbeats 400000
theorem lenB (m : MachD) (n : Nat) : (cfgI m blankC n).l.length ≤ n ∧ (cfgI m blankC n).r.length ≤ n + 1 := by
  have hp : ∀ (z : Int) (l : List Int), (pushL z l).length ≤ l.length + 1 := fun z l => by unfold pushL; split <;> simp
  induction n with
  | zero => exact ⟨Nat.le_refl _, by show 0 ≤ 1; omega⟩
  | succ n ih =>
    have e : cfgI m blankC (n + 1) = stepI (lookI m (cfgI m blankC n)) (cfgI m blankC n) := rfl
    rw [e]
    generalize cfgI m blankC n = c at *
    generalize lookI m c = ru
    unfold stepI
    split
    · have := hp ru.w c.l
      refine ⟨by show (pushL ru.w c.l).length ≤ n + 1; omega, by show (c.r.drop 1).length ≤ n + 1 + 1; rw [List.length_drop]; omega⟩
    · have h1 := hp ru.w (c.r.drop 1)
      have h2 := hp (hdD c.l) (pushL ru.w (c.r.drop 1))
      rw [List.length_drop] at h1
      refine ⟨by show (c.l.drop 1).length ≤ n + 1; rw [List.length_drop]; omega, by show (pushL (hdD c.l) (pushL ru.w (c.r.drop 1))).length ≤ n + 1 + 1; omega⟩
theorem notFullB {m : MachD} {N i : Nat} (h : FullAt m blankC N i) (hN : N ≤ 199) : False := by
  have h1 := h.full
  have := lenB m i
  have := h.le
  have h2 : fitI (cfgI m blankC i) = true := by
    simp only [fitI, Bool.and_eq_true, decide_eq_true_eq]
    omega
  rw [h1] at h2
  cases h2
/-- What the run says of halting ahead of N steps. -/
theorem before_iff {m : MachD} {N i : Nat} (h : EndAt m blankC N i) : (((i : Int) < (N : Int)) ∧ decide (lookI m (cfgI m blankC i) = noR) = true) ↔ ∃ T, T < N ∧ HaltsAt m T := by
  constructor
  · rintro ⟨h1, h2⟩
    exact ⟨i, by omega, h.runs.no, of_decide_eq_true h2⟩
  · rintro ⟨T, hT, hh⟩
    have : i = T := by
      rcases h.stop with e | e
      · subst e
        exact absurd hh.2 (h.runs.no T hT)
      · exact haltsAt_unique ⟨h.runs.no, e⟩ hh
    subst this
    exact ⟨by omega, decide_eq_true hh.2⟩
def HbRes (w : World) (m : MachD) (d : Nat) (e : Ending) (w' : World) : Prop := ∃ r : Bool, e = .returned (.bool r) ∧ (r = true ↔ ∃ T, T < d ∧ HaltsAt m T) ∧ Ext w w'
set_option maxRecDepth 20000 in
set_option maxHeartbeats 1000000 in
theorem haltsBefore_c (w : World) (m : MachD) (mv : Value) (N : Nat) (hr : Rules w mv m.rules) (hm : machOk m = true) (hN : N ≤ 199) :
    Calls Tryz.prog 26 #[.agg #[.int .i64 m.sy, .int .i64 m.st, mv], .int .i64 N] w (HbRes w m N) := by
  obtain ⟨Am, cm, rfl, _, _⟩ := id hr.form
  obtain ⟨W, hW⟩ : ∃ W, W = w.alloc (.cells #[.int .i64 m.sy, .int .i64 m.st, .slice Am m.rules.length cm] 26) := ⟨_, rfl⟩
  have hX : Ext w W := by rw [hW]; exact Ext.alloc _ _
  have HM := Lib.hid hm
  have HR := Lib.hid hr
  have HG := Lib.hid (blank_goodB hm)
  clear hm hr
  go_enter Tryz.func26, Tryz.ntmps26
  go_wp2_with fail
  rw [← hW]
  clear hW
  refine (blankRun_c W m _ (HR.out.ext hX)).mono ?_
  rintro e w2 ⟨b, lv, rv, rfl, hRun⟩
  have hR2 := hRun.under HR.out hX
  clear hRun
  go_wp2_with fail
  refine (run_c w w2 b m blankC _ lv rv N (by omega) HM.out HG.out (by decide) hR2).mono ?_
  rintro e w3 (⟨i, l3, r3, hE, rfl, R3⟩ | ⟨⟨i, hFull⟩, rfl, hx3⟩)
  · have HB := Lib.hid (before_iff hE)
    have HX := Lib.hid R3.ext0
    clear hE R3 hR2
    generalize decide (lookI m (cfgI m blankC i) = noR) = q at *
    by_cases hiN : (i : Int) < (N : Int)
    · have HI := Lib.hid hiN
      cases q
      · go_wp2_with fail
        exact bodyPost_ret (v := .bool false) (by simp [results, Tryz.results26, go_sem]) rfl ⟨false, rfl, by rw [← HB.out]; simp, HX.out⟩
      · go_wp2_with fail
        exact bodyPost_ret (v := .bool true) (by simp [results, Tryz.results26, go_sem]) rfl ⟨true, rfl, by rw [← HB.out]; simp [HI.out], HX.out⟩
    · have HI := Lib.hid hiN
      cases q
      · go_wp2_with fail
        exact bodyPost_ret (v := .bool false) (by simp [results, Tryz.results26, go_sem]) rfl ⟨false, rfl, by rw [← HB.out]; simp; try omega, HX.out⟩
      · go_wp2_with fail
        exact bodyPost_ret (v := .bool false) (by simp [results, Tryz.results26, go_sem]; omega) rfl ⟨false, rfl, by rw [← HB.out]; simp; omega, HX.out⟩
  · exact (notFullB hFull hN).elim
end Go.Proofs.YtacpchapgklcgaaGreatDoor
end
section
set_option linter.unusedSimpArgs false
set_option linter.unusedVariables false
namespace Go.Proofs.YtacpchapgklcgaaGreatDoor
open Go Go.RowKit Go.Proofs
set_option maxHeartbeats 400000
theorem Sizes.det {m : MachD} {n : Nat} {l : List PartD} {s : Int} {zs : List Int} (h : Sizes m n l s zs) : ∀ {l' : List PartD} {s' : Int} {zs' : List Int}, Sizes m n l' s' zs' → l' = l ∧ s' = s ∧ zs' = zs := by
  induction h with
  | zero => intro l' s' zs' h'; cases h'; exact ⟨rfl, rfl, rfl⟩
  | next h0 hl hn ih =>
    intro l' s' zs' h'
    cases h' with
    | next g0 gl gn =>
      obtain ⟨rfl, rfl, rfl⟩ := ih g0
      rw [hn] at gn
      injection gn with gn
      injection gn with e1 e2
      subst e1 e2
      exact ⟨rfl, rfl, rfl⟩
theorem Sizes.cut {m : MachD} {n : Nat} {l : List PartD} {s : Int} {zs : List Int} (h : Sizes m n l s zs) : ∀ k, k < n → ∃ l' s' zs', Sizes m k l' s' zs' ∧ 0 < l'.length ∧ ¬ nextP m l' s' = none := by
  induction h with
  | zero => intro k hk; omega
  | @next n l s l' s' zs h0 hl hn ih =>
    intro k hk
    by_cases e : k = n
    · subst e
      exact ⟨l, s, zs, h0, hl, by rw [hn]; simp⟩
    · exact ih k (by omega)
/-- Where two runs of levels end. -/
theorem Sizes.empty_uniq {m : MachD} {n n' : Nat} {l l' : List PartD} {s s' : Int} {zs zs' : List Int} (h : Sizes m n l s zs) (h' : Sizes m n' l' s' zs') (h0 : l'.length = 0) : n ≤ n' := by
  rcases Nat.lt_or_ge n' n with c | c
  · obtain ⟨l2, s2, z2, g1, g2, _⟩ := h.cut n' c
    obtain ⟨rfl, _, _⟩ := g1.det h'
    omega
  · exact c
def CbYes (m : MachD) (p : ProofD) : Prop := pOfB m p 4 1 = true ∧ inB (p.ns.getD 0 0) 0 60 = true ∧ (haltP m).length ≤ 300 ∧ (∃ n l s zs, n ≤ (p.ns.getD 0 0).toNat ∧ Sizes m n l s zs ∧ l.length = 0) ∧ ¬ ∃ T, T < (p.ns.getD 0 0).toNat ∧ HaltsAt m T
theorem CbYes.sound {m : MachD} {p : ProofD} (h : CbYes m p) (T : Nat) : ¬ HaltsAt m T := by
  obtain ⟨h1, h2, h3, ⟨n, l, s, zs, hn, hs, hl⟩, hno⟩ := h
  intro ht
  have hm : machOk m = true := by simp only [pOfB, Bool.and_eq_true] at h1; exact h1.1.1.1.1
  have hf := (hs.facts hm).2.2.2.2
  have hz : l = [] := List.eq_nil_of_length_eq_zero hl
  subst hz
  have := chain_empty hm (haltsAt_run hm ht) hf
  exact hno ⟨T, by omega, ht⟩
def CbRes (w : World) (m : MachD) (p : ProofD) (e : Ending) (w' : World) : Prop := ∃ r : Bool, e = .returned (.bool r) ∧ (r = true ↔ CbYes m p) ∧ Ext w w'
set_option maxRecDepth 20000 in
set_option maxHeartbeats 2000000 in
theorem CheckBackward_c (v u : Value) (m : MachD) (p : ProofD) (w : World) (hm : Mach w v m) (hp : Prf w u p) (hT : Tab w) :
    Calls Tryz.prog 8 #[v, u] w (CbRes w m p) := by
  obtain ⟨rv, rfl, hr⟩ := hm
  obtain ⟨nv, wv, rfl, hn, hw⟩ := hp
  obtain ⟨Ar, cr, rfl, _, _⟩ := hr.form
  obtain ⟨An, cn, rfl, _, _⟩ := hn.form
  obtain ⟨Aw, cw, rfl, _, _⟩ := hw.form
  have hx0 := (Ext.alloc w (.cells #[.int .i64 m.sy, .int .i64 m.st, .slice Ar m.rules.length cr] 26)).trans (Ext.alloc _ (.cells #[.int .i64 p.k, .slice An p.ns.length cn, .slice Aw p.ws.length cw] 36))
  have bM := (Blk.new w w.heap.size 26 #[.int .i64 m.sy, .int .i64 m.st, .slice Ar m.rules.length cr] rfl).alloc (.cells #[.int .i64 p.k, .slice An p.ns.length cn, .slice Aw p.ws.length cw] 36)
  have bP := Blk.new (w.alloc (.cells #[.int .i64 m.sy, .int .i64 m.st, .slice Ar m.rules.length cr] 26)) (w.heap.size + 1) 36 #[.int .i64 p.k, .slice An p.ns.length cn, .slice Aw p.ws.length cw] (by simp)
  go_enter Tryz.func8, Tryz.ntmps8
  go_wp2_with fail
  refine (proofOf_c _ _ m p 4 1 _ ⟨_, rfl, hr.ext hx0⟩ ⟨_, _, rfl, hn.ext hx0, hw.ext hx0⟩).mono ?_
  rintro e w1 ⟨rfl, hx1⟩
  have hX1 := hx0.trans hx1
  cases h1 : pOfB m p 4 1 with
  | false =>
    have HE : Hid ((false = true) ↔ CbYes m p) := Lib.hid ⟨fun h => (by cases h), fun h => by have := h.1; rw [h1] at this; cases this⟩
    clear h1
    go_wp2
    go_ret
    exact ⟨false, rfl, HE.out, hX1⟩
  | true =>
    have H1 := Lib.hid h1
    have hmok : machOk m = true := by simp only [pOfB, Bool.and_eq_true] at h1; exact h1.1.1.1.1
    have hl1 : p.ns.length = 1 := by
      simp only [pOfB, Bool.and_eq_true, beq_iff_eq] at h1
      omega
    have hl0 : 0 < p.ns.length := by omega
    clear h1
    obtain ⟨b', off, rfl, hc⟩ := (hn.ext hX1).at hl0
    have d0 : w1.cell? ⟨b', off, none⟩ = some (.int .i64 p.ns[0]) := hc 0 hl0
    have HZ : Hid (p.ns.getD 0 0 = p.ns[0]) := by unfold Hid; rw [List.getD_eq_getElem?_getD, List.getElem?_eq_getElem hl0]; rfl
    have bM1 := bM.ext hx1
    have bP1 := bP.ext hx1
    have c0 := bM1.cell 0
    have c1 := bM1.cell 1
    have c2 := bM1.cell 2
    have e1 := bP1.cell 1
    simp only [List.getElem?_toArray, List.getElem?_cons_zero, List.getElem?_cons_succ] at c0 c1 c2 e1
    have hi0 : (0 : Int) < (p.ns.length : Int) := by omega
    clear hc hl1
    generalize p.ns[0] = z at *
    go_wp2_with fail
    refine (within_c _ _ _ _).mono ?_
    rintro e w' ⟨rfl, rfl⟩
    cases hz : inB z 0 60 with
    | false =>
      have HE : Hid ((false = true) ↔ CbYes m p) := Lib.hid ⟨fun h => (by cases h), fun h => by have := h.2.1; rw [HZ.out, hz] at this; cases this⟩
      clear hz
      go_wp2
      go_ret
      exact ⟨false, rfl, HE.out, hX1⟩
    | true =>
      obtain ⟨d, rfl⟩ : ∃ d : Nat, z = (d : Int) := ⟨z.toNat, by simp [inB] at hz; omega⟩
      have hd : d ≤ 60 := by simp [inB] at hz; omega
      have HY : Hid (CbYes m p ↔ (haltP m).length ≤ 300 ∧ (∃ n l s zs, n ≤ d ∧ Sizes m n l s zs ∧ l.length = 0) ∧ ¬ ∃ T, T < d ∧ HaltsAt m T) := by
        unfold Hid CbYes
        rw [HZ.out, H1.out, hz]
        simp
      clear hz
      have hT1 : Tab w1.drew := (hT.below hT.low hX1).ext (Ext.drew _)
      have hr1 := (hr.ext hX1).ext (Ext.drew _)
      have hbl := backwardLevels_c m (.slice Ar m.rules.length cr) d w1.drew hr1 hmok hT1 hd
      go_wp2_with fail
      refine wp_region_ordT 10 (readsT [0, 1, 2, 3, 4] (.stir 5 (readsT [6, 7, 8, 9] .done))) (by kernel_rfl) (by kernel_rfl) (fun _ _ _ _ _ h => h) ?_
      simp only [readsT]
      repeat (refine wpOrdT_read (v := ?_) (by rfl) (Or.inl ⟨by rfl, fun x hx => ?_⟩) ?_; rotate_left; (· have a1 := hx.cell ((Ext.drew w1).cell c0); have a2 := hx.cell ((Ext.drew w1).cell c1); have a3 := hx.cell ((Ext.drew w1).cell c2); have a4 := hx.cell ((Ext.drew w1).cell e1); have a5 := hx.cell ((Ext.drew w1).cell d0); go_simp; try with_reducible rfl); try simp only [Act.put, List.setIfInBounds_toArray, List.set_cons_zero, List.set_cons_succ])
      refine wpOrdT_keep (by rfl) (fun K hK => ?_)
      go_simp
      go_at_call 25
      refine hbl.mono ?_
      rintro e w2 ⟨hx2, ⟨rfl, hbad⟩ | ⟨h300, n, l, s, zs, uv, hnd, hS, hend, rfl, hown⟩⟩
      · refine hK _ _ hx2 ?_
        clear hK K
        repeat (refine wpOrdT_read (v := ?_) (by rfl) (Or.inl ⟨by rfl, fun x hx => ?_⟩) ?_; rotate_left; (· go_simp; try with_reducible rfl); try simp only [Act.put, List.setIfInBounds_toArray, List.set_cons_zero, List.set_cons_succ])
        refine wpOrdT_done ?_
        try simp only [List.drop_succ_cons, List.drop_zero]
        have HE : Hid ((false = true) ↔ CbYes m p) := Lib.hid ⟨fun h => (by cases h), fun h => by
          obtain ⟨g1, ⟨n', l', s', z', gn, gs, gl⟩, _⟩ := HY.out.1 h
          rcases hbad with hb | ⟨_, n, l, s, zs, bn, bs, bl, bx⟩
          · omega
          · have hnn := bs.empty_uniq gs gl
            by_cases e : n = n'
            · subst e
              obtain ⟨rfl, _, _⟩ := bs.det gs
              omega
            · obtain ⟨l2, s2, z2, k1, k2, k3⟩ := gs.cut n (by omega)
              obtain ⟨rfl, rfl, _⟩ := bs.det k1
              exact absurd bx k3⟩
        have HX := Lib.hid ((hX1.trans (Ext.drew _)).trans (hx2.trans (Ext.drew _)))
        clear hbad hbl hr1 hT1
        go_wp2_with fail
        refine wp_region_ordT 17 (readsT [0, 1, 2, 3, 4, 5, 6, 7, 8, 9, 10, 11, 12, 13, 14, 15, 16] .done) (by kernel_rfl) (by kernel_rfl) (fun _ _ _ _ _ h => h) ?_
        simp only [readsT]
        iterate 3 (refine wpOrdT_read (v := ?_) (by rfl) (Or.inl ⟨by rfl, fun x hx => ?_⟩) ?_; rotate_left; (· go_simp; try with_reducible rfl); try simp only [Act.put, List.setIfInBounds_toArray, List.set_cons_zero, List.set_cons_succ])
        iterate 7 (refine wpOrdT_read (v := undef) (by rfl) (Or.inr ⟨by rfl, by rfl⟩) ?_; try simp only [Act.put, List.setIfInBounds_toArray, List.set_cons_zero, List.set_cons_succ])
        iterate 2 (refine wpOrdT_read (v := ?_) (by rfl) (Or.inl ⟨by rfl, fun x hx => ?_⟩) ?_; rotate_left; (· go_simp; try with_reducible rfl); try simp only [Act.put, List.setIfInBounds_toArray, List.set_cons_zero, List.set_cons_succ])
        iterate 5 (refine wpOrdT_read (v := undef) (by rfl) (Or.inr ⟨by rfl, by rfl⟩) ?_; try simp only [Act.put, List.setIfInBounds_toArray, List.set_cons_zero, List.set_cons_succ])
        refine wpOrdT_done ?_
        try simp only [List.drop_succ_cons, List.drop_zero]
        go_wp2
        exact bodyPost_ret (v := .bool false) (by simp [results, Tryz.results8, go_sem]) rfl ⟨false, rfl, HE.out, HX.out⟩
      · have hf := hS.facts hmok
        have hzl := hf.2.2.1
        have hzn := hf.2.2.2.1
        obtain ⟨Au, cu, rfl, hcu1, hcu2⟩ := hown.ints.form
        obtain ⟨b2, off2, rfl, hc2⟩ := hown.ints.at (k := n) (by omega)
        have f0 := hc2 n (by omega)
        rw [show zs[n]'(by omega) = (l.length : Int) by rw [List.getElem?_eq_getElem (by omega)] at hzn; injection hzn] at f0
        refine hK _ _ hx2 ?_
        clear hK K
        repeat (refine wpOrdT_read (v := ?_) (by rfl) (Or.inl ⟨by rfl, fun x hx => ?_⟩) ?_; rotate_left; (· go_simp; try with_reducible rfl); try simp only [Act.put, List.setIfInBounds_toArray, List.set_cons_zero, List.set_cons_succ])
        refine wpOrdT_done ?_
        try simp only [List.drop_succ_cons, List.drop_zero]
        have hXD := (Ext.drew w1).trans (hx2.trans (Ext.drew w2))
        have HX := Lib.hid (hX1.trans hXD)
        have hr2 := hr1.ext (hx2.trans (Ext.drew w2))
        have c0' := hXD.cell c0
        have c1' := hXD.cell c1
        have c2' := hXD.cell c2
        have e1' := hXD.cell e1
        have d0' := hXD.cell d0
        have f0' := (Ext.drew w2).cell f0
        have hz1 : (zs.length : Int) - 1 = (n : Int) := by omega
        have hz2 : (n : Int) < (zs.length : Int) := by omega
        have hz3 : (0 : Int) ≤ (n : Int) := by omega
        have hz4 : (n : Int) < (n : Int) + 1 := by omega
        have hwn : IntKind.i64.wrap (n : Int) = (n : Int) := IntWalk.i64_in _ (by omega)
        have HHB := Lib.hid (haltsBefore_c w2.drew m (.slice Ar m.rules.length cr) d hr2 hmok (by omega))
        have HS := Lib.hid hS
        have HEN := Lib.hid hend
        clear hf hzn hbl hr1 hT1 hc2 hown hS hend f0 hx2 c0 c1 c2 e1 d0
        generalize hll : l.length = L at *
        have HLL := Lib.hid hll
        clear hll
        go_wp2_with fail
        refine wp_region_ordT 17 (readsT [0, 1, 2, 3, 4, 5, 6, 7, 8, 9, 10, 11, 12, 13, 14, 15, 16] .done) (by kernel_rfl) (by kernel_rfl) (fun _ _ _ _ _ h => h) ?_
        simp only [readsT]
        iterate 6 (refine wpOrdT_read (v := ?_) (by rfl) (Or.inl ⟨by rfl, fun x hx => ?_⟩) ?_; rotate_left; (· go_simp; try with_reducible rfl); try simp only [Act.put, List.setIfInBounds_toArray, List.set_cons_zero, List.set_cons_succ])
        refine wpOrdT_read (v := .int .i64 (n : Int)) (by rfl) (Or.inl ⟨by rfl, fun x hx => ?_⟩) ?_
        · go_simp; try simp only [hz1, hwn]; try with_reducible rfl
        try simp only [Act.put, List.setIfInBounds_toArray, List.set_cons_zero, List.set_cons_succ]
        iterate 2 (refine wpOrdT_read (v := ?_) (by rfl) (Or.inl ⟨by rfl, fun x hx => ?_⟩) ?_; rotate_left; (· have a6 := hx.cell f0'; go_simp; try with_reducible rfl); try simp only [Act.put, List.setIfInBounds_toArray, List.set_cons_zero, List.set_cons_succ])
        by_cases hL0 : L = 0
        · subst hL0
          iterate 8 (refine wpOrdT_read (v := ?_) (by rfl) (Or.inl ⟨by rfl, fun x hx => ?_⟩) ?_; rotate_left; (· have a1 := hx.cell c0'; have a2 := hx.cell c1'; have a3 := hx.cell c2'; have a4 := hx.cell e1'; have a5 := hx.cell d0'; go_simp; try with_reducible rfl); try simp only [Act.put, List.setIfInBounds_toArray, List.set_cons_zero, List.set_cons_succ])
          refine wpOrdT_done ?_
          try simp only [List.drop_succ_cons, List.drop_zero]
          go_wp2_with fail
          refine HHB.out.mono ?_
          rintro e w3 ⟨r, rfl, hrr, hx3⟩
          have HE : Hid (((!r) = true) ↔ CbYes m p) := Lib.hid (by
            rw [HY.out]
            constructor
            · intro h
              have hr0 : r = false := by simpa using h
              refine ⟨h300, ⟨n, l, s, zs, hnd, HS.out, HLL.out⟩, fun hh => ?_⟩
              have := hrr.2 hh
              rw [hr0] at this
              cases this
            · rintro ⟨_, _, h⟩
              cases r
              · rfl
              · exact absurd (hrr.1 rfl) h)
          have HX3 := Lib.hid (HX.out.trans hx3)
          clear hrr
          cases r
          · go_wp2
            exact bodyPost_ret (v := .bool true) (by simp [results, Tryz.results8, go_sem]) rfl ⟨true, rfl, HE.out, HX3.out⟩
          · go_wp2
            exact bodyPost_ret (v := .bool false) (by simp [results, Tryz.results8, go_sem]) rfl ⟨false, rfl, HE.out, HX3.out⟩
        · have hLb : ((L : Int) == 0) = false := by simp; omega
          have hLd : decide ((L : Int) = 0) = false := by simp; omega
          have HE : Hid ((false = true) ↔ CbYes m p) := Lib.hid ⟨fun h => (by cases h), fun h => by
            obtain ⟨g1, ⟨n', l', s', z', gn, gs, gl⟩, _⟩ := HY.out.1 h
            have hnn := HS.out.empty_uniq gs gl
            have hLL := HLL.out
            rcases HEN.out with e | e
            · have e2 : n = n' := by omega
              subst e2
              obtain ⟨rfl, _, _⟩ := HS.out.det gs
              omega
            · omega⟩
          refine wpOrdT_read (v := .bool false) (by rfl) (Or.inl ⟨by rfl, fun x hx => ?_⟩) ?_
          · go_simp; try simp only [hLb, hLd]; try with_reducible rfl
          try simp only [Act.put, List.setIfInBounds_toArray, List.set_cons_zero, List.set_cons_succ]
          iterate 2 (refine wpOrdT_read (v := ?_) (by rfl) (Or.inl ⟨by rfl, fun x hx => ?_⟩) ?_; rotate_left; (· go_simp; try with_reducible rfl); try simp only [Act.put, List.setIfInBounds_toArray, List.set_cons_zero, List.set_cons_succ])
          iterate 5 (refine wpOrdT_read (v := undef) (by rfl) (Or.inr ⟨by rfl, by rfl⟩) ?_; try simp only [Act.put, List.setIfInBounds_toArray, List.set_cons_zero, List.set_cons_succ])
          refine wpOrdT_done ?_
          try simp only [List.drop_succ_cons, List.drop_zero]
          go_wp2
          exact bodyPost_ret (v := .bool false) (by simp [results, Tryz.results8, go_sem]) rfl ⟨false, rfl, HE.out, HX.out⟩
end Go.Proofs.YtacpchapgklcgaaGreatDoor
end
section
set_option linter.unusedSimpArgs false
set_option linter.unusedVariables false
namespace Go.Proofs.YtacpchapgklcgaaGreatDoor
open Go Go.RowKit Go.Proofs
set_option maxHeartbeats 400000
/-- The levels from so many steps. -/
inductive Deep (m : MachD) (s0 : Int) : Nat → List PartD → Int → Prop
  | zero : Deep m s0 0 (haltP m) s0
  | next {n l s l' s'} : Deep m s0 n l s → 0 < l.length → nextP m l s = some (l', s') → Deep m s0 (n + 1) l' s'
theorem nextGo_more {m : MachD} {k : Int} (hk : 0 ≤ k) : ∀ {xs acc : List PartD} {s : Int} {l' : List PartD} {s' : Int}, nextGo m xs acc s = some (l', s') → nextGo m xs acc (s + k) = some (l', s' + k) := by
  intro xs
  induction xs with
  | nil => intro acc s l' s' h; injection h with h; injection h with h1 h2; subst h1 h2; rfl
  | cons a xs ih =>
    intro acc s l' s' h
    rw [nextGo_cons] at h ⊢
    split at h
    · cases h
    · rename_i hn
      split at h
      · cases h
      · rename_i h3
        rw [if_neg (fun c => hn (c.imp id (fun c => by omega))), if_neg h3, show s + k - 1 = s - 1 + k by omega]
        exact ih h
theorem Deep.sizes {m : MachD} {s0 : Int} (h0 : s0 ≤ 18300) {n : Nat} {l : List PartD} {s : Int} (h : Deep m s0 n l s) : ∃ zs, Sizes m n l (s + (18300 - s0)) zs := by
  induction h with
  | zero => exact ⟨_, by rw [show s0 + (18300 - s0) = 18300 by omega]; exact .zero⟩
  | next h1 hl hn ih =>
    obtain ⟨zs, hz⟩ := ih
    exact ⟨_, .next hz hl (nextGo_more (by omega) hn)⟩
theorem Deep.facts {m : MachD} (hm : machOk m = true) {s0 : Int} (h0 : 0 ≤ s0) {n : Nat} {l : List PartD} {s : Int} (h : Deep m s0 n l s) : (0 ≤ s ∧ s ≤ s0) ∧ (∀ x ∈ l, PartOk m x) := by
  induction h with
  | zero => exact ⟨by omega, haltP_ok hm⟩
  | next h1 hl hn ih =>
    have := nextGo_steps hn ih.1.1
    exact ⟨by omega, nextGo_ok hm hn (fun x hx => by cases hx) ih.2⟩
def FeRes (w0 : World) (m : MachD) (s0 : Int) (e : Ending) (w' : World) : Prop :=
  Ext w0 w' ∧ (e = .returned (.tuple #[.int .i64 0, .int .i64 5]) ∨ ∃ (n : Nat) (l : List PartD) (s : Int), n ≤ 60 ∧ Deep m s0 n l s ∧ l.length = 0 ∧ e = .returned (.tuple #[.int .i64 n, .int .i64 0]))
set_option maxRecDepth 20000 in
set_option maxHeartbeats 4000000 in
theorem firstEmpty_c (w0 w : World) (B b : Nat) (m : MachD) (mv lv : Value) (s0 : Int) (hb : Blk w b 104 #[.int .i64 m.sy, .int .i64 m.st, mv, lv, .int .i64 s0]) (hr : Rules w0 mv m.rules) (hx0 : Ext w0 w) (hb0 : w0.heap.size ≤ b)
    (hl : OwnPD B w lv (haltP m)) (hm : machOk m = true) (hT : Tab w0) (h300 : (haltP m).length ≤ 300) (h1 : 0 ≤ s0) (h2 : s0 ≤ 18300) :
    Calls Tryz.prog 62 #[.pointer (some ⟨b, 0, none⟩)] w (FeRes w0 m s0) := by
  obtain ⟨Am, cm, rfl, _, _⟩ := id hr.form
  go_enter Tryz.func62, Tryz.ntmps62
  go_wp2_with fail
  go_loopw [5] (fun i wr => ∃ (n : Nat) (l : List PartD) (s : Int) (lv : Value) (B : Nat), n ≤ 60 ∧ i = .int .i64 (n : Int) ∧ Hid (Deep m s0 n l s) ∧ Blk wr b 104 #[.int .i64 m.sy, .int .i64 m.st, .slice Am m.rules.length cm, lv, .int .i64 s] ∧ OwnPD B wr lv l ∧ Ext w0 wr ∧ l.length ≤ 300) (fun i _ => 61 - (intOf i).toNat)
  case atStart => exact ⟨0, haltP m, s0, _, _, Nat.zero_le _, rfl, Lib.hid .zero, hb, hl, hx0, h300⟩
  case round =>
    clear hb hl hx0
    obtain ⟨n, l, s, lv, B, hn, rfl, HS, hbl, hpd, hX2, hl3⟩ := hrel
    obtain ⟨Al, cl, rfl, _, _⟩ := hpd.form
    have hf := HS.out.facts hm h1
    have y3 := hbl.cell 3
    simp only [List.getElem?_toArray, List.getElem?_cons_zero, List.getElem?_cons_succ] at y3
    have hn61 : (n : Int) < 61 := by omega
    by_cases hl0 : l.length = 0
    · have hl1 : ((l.length : Int) == 0) = true := by simp [hl0]
      have HL := Lib.hid hl0
      clear hl0 hf
      go_wp2_with fail
      exact bodyPost_ret (v := .tuple #[.int .i64 n, .int .i64 0]) (by simp [results, Tryz.results62, go_sem]) rfl ⟨hX2, .inr ⟨n, l, s, hn, HS.out, HL.out, rfl⟩⟩
    · have hl1 : ((l.length : Int) == 0) = false := beq_eq_false_iff_ne.2 (by omega)
      by_cases hn6 : n = 60
      · subst hn6
        clear hf
        go_wp2_with fail
        exact bodyPost_ret (v := .tuple #[.int .i64 0, .int .i64 5]) (by simp [results, Tryz.results62, go_sem]) rfl ⟨hX2, .inl rfl⟩
      · have hn1 : ((n : Int) == 60) = false := beq_eq_false_iff_ne.2 (by omega)
        have hlev := level_c w0 B b m (.slice Am m.rules.length cm) (.slice Al l.length cl) l s wr hbl hr hX2 hb0 hpd hf.2 hm hT (by omega) (by omega) (by omega)
        have HL0 := Lib.hid hl0
        clear hf hl0
        go_wp2_with fail
        refine hlev.mono ?_
        rintro e w3 ⟨hg3, ⟨ho, rfl⟩ | ⟨l', s', lv', ho, rfl, hb3, hpd3, hl3'⟩⟩
        · have hx3 : Ext w0 w3 := by
            have hg := grownBy_step (r := none) (ext_grownBy hX2 none) hg3 (fun j hj => by injection hj with hj; subst hj; exact .inl hb0)
            exact ⟨hg.os, hg.tape, hg.output, hg.size, fun i hi => hg.block i hi (by simp)⟩
          clear ho y3 hlev
          go_wp2_with fail
          exact bodyPost_ret (v := .tuple #[.int .i64 0, .int .i64 5]) (by simp [results, Tryz.results62, go_sem]) rfl ⟨hx3, .inl rfl⟩
        · have HS2 := Lib.hid (Deep.next HS.out (by have := HL0.out; omega) ho)
          have hx3 : Ext w0 w3 := by
            have hg := grownBy_step (r := none) (ext_grownBy hX2 none) hg3 (fun j hj => by injection hj with hj; subst hj; exact .inl hb0)
            exact ⟨hg.os, hg.tape, hg.output, hg.size, fun i hi => hg.block i hi (by simp)⟩
          clear ho y3 hlev hpd hbl
          go_wp2
          go_roundw
          case rel => exact ⟨n + 1, l', s', lv', _, by omega, by go_num, HS2, hb3, hpd3, hx3, hl3'⟩
          case measure => simp [intOf]; omega
def BdRes (w : World) (m : MachD) (s0 : Int) (e : Ending) (w' : World) : Prop :=
  Ext w w' ∧ (e = .returned (.tuple #[.int .i64 0, .int .i64 5]) ∨ ∃ (n : Nat) (l : List PartD) (s : Int), n ≤ 60 ∧ (haltP m).length ≤ 300 ∧ Deep m s0 n l s ∧ l.length = 0 ∧ e = .returned (.tuple #[.int .i64 n, .int .i64 0]))
set_option maxRecDepth 20000 in
set_option maxHeartbeats 4000000 in
theorem BackwardDepth_c (w : World) (m : MachD) (mv : Value) (s0 : Int) (hr : Rules w mv m.rules) (hm : machOk m = true) (hT : Tab w) (h1 : 1 ≤ s0) (h2 : s0 ≤ 18300) :
    Calls Tryz.prog 32 #[.agg #[.int .i64 m.sy, .int .i64 m.st, mv], .int .i64 s0] w (BdRes w m s0) := by
  obtain ⟨Am, cm, rfl, _, _⟩ := id hr.form
  obtain ⟨W, hW⟩ : ∃ W, W = w.alloc (.cells #[.int .i64 m.sy, .int .i64 m.st, .slice Am m.rules.length cm] 26) := ⟨_, rfl⟩
  have hX : Ext w W := by rw [hW]; exact Ext.alloc _ _
  have bM : Blk W w.heap.size 26 #[.int .i64 m.sy, .int .i64 m.st, .slice Am m.rules.length cm] := by rw [hW]; exact Blk.new _ _ _ _ rfl
  have hbud : budC m s0 = 0 := by simp [budC, hm, inB]; omega
  have hbc := budgeted_c (.agg #[.int .i64 m.sy, .int .i64 m.st, .slice Am m.rules.length cm]) m s0 W ⟨_, rfl, hr.ext hX⟩
  rw [hbud] at hbc
  have c0 := bM.cell 0
  have c1 := bM.cell 1
  have c2 := bM.cell 2
  simp only [List.getElem?_toArray, List.getElem?_cons_zero, List.getElem?_cons_succ] at c0 c1 c2
  rw [hW] at c0 c1 c2
  have HW := Lib.hid hW
  clear hW
  go_enter Tryz.func32, Tryz.ntmps32
  go_wp2_with fail
  rw [← HW.out]
  clear HW
  refine hbc.mono ?_
  rintro e w1 ⟨rfl, hx1⟩
  have hX1 := hX.trans hx1
  clear c0 c1 c2
  have bM1 := bM.ext hx1
  have c0 := bM1.cell 0
  have c1 := bM1.cell 1
  have c2 := bM1.cell 2
  simp only [List.getElem?_toArray, List.getElem?_cons_zero, List.getElem?_cons_succ] at c0 c1 c2
  go_wp2_with fail
  refine (haltingLevel_c m _ s0 w1 (hr.ext hX1) hm).mono ?_
  rintro e w2 ⟨hx2, bl, lv, rfl, hbl, hpd, hble⟩
  have hX2 := hX1.trans hx2
  clear c0 c1 c2
  by_cases h300 : (haltP m).length ≤ 300
  · rw [decide_eq_true h300]
    have hfe := firstEmpty_c w w2 0 bl m _ lv s0 hbl hr hX2 (by have := hX1.size; omega) hpd hm hT h300 (by omega) h2
    have H3 := Lib.hid h300
    clear h300
    go_wp2_with fail
    refine hfe.mono ?_
    rintro e w3 ⟨hx3, rfl | ⟨n, l, s, hn, hD, hl, rfl⟩⟩
    · go_wp2
      exact bodyPost_ret (v := .tuple #[.int .i64 0, .int .i64 5]) (by simp [results, Tryz.results32, go_sem]) rfl ⟨hx3, .inl rfl⟩
    · have HL := Lib.hid hl
      clear hl
      go_wp2
      exact bodyPost_ret (v := .tuple #[.int .i64 n, .int .i64 0]) (by simp [results, Tryz.results32, go_sem]) rfl ⟨hx3, .inr ⟨n, l, s, hn, H3.out, hD, HL.out, rfl⟩⟩
  · rw [decide_eq_false h300]
    go_wp2
    exact bodyPost_ret (v := .tuple #[.int .i64 0, .int .i64 5]) (by simp [results, Tryz.results32, go_sem]) rfl ⟨hX2, .inl rfl⟩
def FbRes (w : World) (m : MachD) (e : Ending) (w' : World) : Prop :=
  Ext w w' ∧ ((∃ code, (code = 3 ∨ code = 5) ∧ e = .returned (.tuple #[.agg #[.int .i64 0, .slice none 0 0, .slice none 0 0], .int .i64 code])) ∨
    ∃ (n g : Nat), CbYes m ⟨4, [(n : Int)], []⟩ ∧ e = .returned (.tuple #[.agg #[.int .i64 4, .slice (some ⟨g, 0, none⟩) 1 1, .slice none 0 0], .int .i64 0]) ∧ Ints w' (.slice (some ⟨g, 0, none⟩) 1 1) [(n : Int)])
theorem cb_of {m : MachD} (hm : machOk m = true) {s0 : Int} (h0 : s0 ≤ 18300) {n : Nat} (hn : n ≤ 60) {l : List PartD} {s : Int} (h300 : (haltP m).length ≤ 300) (h : Deep m s0 n l s) (hl : l.length = 0) (hno : ¬ ∃ T, T < n ∧ HaltsAt m T) : CbYes m ⟨4, [(n : Int)], []⟩ := by
  obtain ⟨zs, hz⟩ := h.sizes h0
  refine ⟨?_, ?_, h300, ⟨n, l, _, zs, by simp, hz, hl⟩, by simpa using hno⟩
  · simp [pOfB, hm, prfOk, inB]
    try omega
  · simp [inB]
    try omega
set_option maxRecDepth 20000 in
set_option maxHeartbeats 4000000 in
theorem FindBackward_c (w : World) (m : MachD) (mv : Value) (s0 : Int) (hr : Rules w mv m.rules) (hm : machOk m = true) (hT : Tab w) (h1 : 1 ≤ s0) (h2 : s0 ≤ 18300) :
    Calls Tryz.prog 12 #[.agg #[.int .i64 m.sy, .int .i64 m.st, mv], .int .i64 s0] w (FbRes w m) := by
  obtain ⟨Am, cm, rfl, _, _⟩ := id hr.form
  obtain ⟨W, hW⟩ : ∃ W, W = (w.alloc (.cells #[.int .i64 m.sy, .int .i64 m.st, .slice Am m.rules.length cm] 26)).alloc (.cells #[.int .i64 0, .slice none 0 0, .slice none 0 0] 36) := ⟨_, rfl⟩
  have hX : Ext w W := by rw [hW]; exact (Ext.alloc _ _).trans (Ext.alloc _ _)
  have bM : Blk W w.heap.size 26 #[.int .i64 m.sy, .int .i64 m.st, .slice Am m.rules.length cm] := by rw [hW]; exact (Blk.new _ _ _ _ rfl).alloc _
  have bP : Blk W (w.heap.size + 1) 36 #[.int .i64 0, .slice none 0 0, .slice none 0 0] := by rw [hW]; exact Blk.new _ _ _ _ (by simp)
  have c0 := bM.cell 0
  have c1 := bM.cell 1
  have c2 := bM.cell 2
  simp only [List.getElem?_toArray, List.getElem?_cons_zero, List.getElem?_cons_succ] at c0 c1 c2
  rw [hW] at c0 c1 c2
  have HW := Lib.hid hW
  clear hW
  go_enter Tryz.func12, Tryz.ntmps12
  go_wp2_with fail
  rw [← HW.out]
  clear HW c0 c1 c2
  refine (BackwardDepth_c W m _ s0 (hr.ext hX) hm (hT.below hT.low hX) h1 h2).mono ?_
  rintro e w1 ⟨hx1, rfl | ⟨n, l, s, hn, h300, hD, hl, rfl⟩⟩
  · have hX1 := hX.trans hx1
    have bP1 := bP.ext hx1
    have d := (((bP1.set_ 0 (.int .i64 0)).set_ 1 (.slice none 0 0)).set_ 2 (.slice none 0 0)).cell
    have g0 := bP1.cell 0
    have g1 := bP1.cell 1
    have g2 := bP1.cell 2
    have f := bP1.frozen
    have hg : w.heap.size ≤ w.heap.size + 1 := by omega
    have HXF := Lib.hid (((hX1.setCell (p := ⟨w.heap.size + 1, 0, none⟩) hg (.int .i64 0)).setCell (p := ⟨w.heap.size + 1, 1, none⟩) hg (.slice none 0 0)).setCell (p := ⟨w.heap.size + 1, 2, none⟩) hg (.slice none 0 0))
    simp only [List.getElem?_toArray, List.getElem?_cons_zero, List.getElem?_cons_succ] at g0 g1 g2
    go_wp2
    exact bodyPost_ret (v := .tuple #[.agg #[.int .i64 0, .slice none 0 0, .slice none 0 0], .int .i64 5]) (by simp [results, Tryz.results12, go_sem, d]) rfl ⟨HXF.out, .inl ⟨5, .inr rfl, rfl⟩⟩
  · have hX1 := hX.trans hx1
    have bM1 := bM.ext hx1
    have c0 := bM1.cell 0
    have c1 := bM1.cell 1
    have c2 := bM1.cell 2
    simp only [List.getElem?_toArray, List.getElem?_cons_zero, List.getElem?_cons_succ] at c0 c1 c2
    have HL := Lib.hid hl
    have H3 := Lib.hid h300
    clear hl h300
    go_wp2_with fail
    refine (haltsBefore_c w1 m _ n (hr.ext hX1) hm (by omega)).mono ?_
    rintro e w2 ⟨r, rfl, hrr, hx2⟩
    have hX2 := hX1.trans hx2
    have bP2 := bP.ext (hx1.trans hx2)
    have g0 := bP2.cell 0
    have g1 := bP2.cell 1
    have g2 := bP2.cell 2
    have f := bP2.frozen
    have hg : w.heap.size ≤ w.heap.size + 1 := by omega
    simp only [List.getElem?_toArray, List.getElem?_cons_zero, List.getElem?_cons_succ] at g0 g1 g2
    clear c0 c1 c2
    cases r
    · have hno : ¬ ∃ T, T < n ∧ HaltsAt m T := fun h => by have := hrr.2 h; cases this
      have HY := Lib.hid (cb_of hm h2 hn H3.out hD HL.out hno)
      clear hrr hno
      have eA := Ext.alloc w2 (.cells #[.int .i64 (n : Int)] 2)
      have bP3 := bP2.ext eA
      have d := (((bP3.set_ 0 (.int .i64 4)).set_ 1 (.slice (some ⟨w2.heap.size, 0, none⟩) 1 1)).set_ 2 (.slice none 0 0)).cell
      have k0 := bP3.cell 0
      have k1 := bP3.cell 1
      have k2 := bP3.cell 2
      have fk := bP3.frozen
      simp only [List.getElem?_toArray, List.getElem?_cons_zero, List.getElem?_cons_succ] at k0 k1 k2
      have hO := own_oneD (w := w2) (n : Int) 0 (Nat.zero_le _)
      have hfar := own_far_blk hO bP3 (by decide)
      have HI := Lib.hid (OwnInts.ints (ownsRow_far (ownsRow_far (ownsRow_far hO hfar (.int .i64 4) (p := ⟨w.heap.size + 1, 0, none⟩)) hfar (.slice (some ⟨w2.heap.size, 0, none⟩) 1 1) (p := ⟨w.heap.size + 1, 1, none⟩)) hfar (.slice none 0 0) (p := ⟨w.heap.size + 1, 2, none⟩)))
      have HXF := Lib.hid ((((hX2.trans eA).setCell (p := ⟨w.heap.size + 1, 0, none⟩) hg (.int .i64 4)).setCell (p := ⟨w.heap.size + 1, 1, none⟩) hg (.slice (some ⟨w2.heap.size, 0, none⟩) 1 1)).setCell (p := ⟨w.heap.size + 1, 2, none⟩) hg (.slice none 0 0))
      clear hO hfar
      go_wp2
      exact bodyPost_ret (v := .tuple #[.agg #[.int .i64 4, .slice (some ⟨w2.heap.size, 0, none⟩) 1 1, .slice none 0 0], .int .i64 0]) (by simp [results, Tryz.results12, go_sem, d]) rfl ⟨HXF.out, .inr ⟨n, _, HY.out, rfl, HI.out⟩⟩
    · clear hrr
      have d := (((bP2.set_ 0 (.int .i64 0)).set_ 1 (.slice none 0 0)).set_ 2 (.slice none 0 0)).cell
      have HXF := Lib.hid (((hX2.setCell (p := ⟨w.heap.size + 1, 0, none⟩) hg (.int .i64 0)).setCell (p := ⟨w.heap.size + 1, 1, none⟩) hg (.slice none 0 0)).setCell (p := ⟨w.heap.size + 1, 2, none⟩) hg (.slice none 0 0))
      go_wp2
      exact bodyPost_ret (v := .tuple #[.agg #[.int .i64 0, .slice none 0 0, .slice none 0 0], .int .i64 3]) (by simp [results, Tryz.results12, go_sem, d]) rfl ⟨HXF.out, .inl ⟨3, .inl rfl, rfl⟩⟩
end Go.Proofs.YtacpchapgklcgaaGreatDoor
end
