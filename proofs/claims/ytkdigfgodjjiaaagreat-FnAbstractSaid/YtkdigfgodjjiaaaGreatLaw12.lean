/- The walk of the law on abstractions and on the product of automata. -/
import Derived.Test.YtkdigfgodjjiaaaGreatAbN
import Derived.Test.YtkdigfgodjjiaaaGreatAbM
import Derived.Test.YtkdigfgodjjiaaaGreatStM
import Derived.Deep.DeepCutAuto
import Derived.Deep.CutBlock
set_option linter.unusedSimpArgs false
set_option linter.unusedVariables false
namespace Go.Proofs.YtkdigfgodjjiaaaGreat
open Go Go.RowKit Go.Proofs
set_option maxHeartbeats 400000
/-- The abstraction of the configuration is in all closed lists. -/
def InAll (m : MachD) (L R : DfaD) (c : ConfD) : Prop := ∀ K, (rndA m L R K).length ≤ K → ofA m L R c ∈ rndA m L R K
theorem inAll_blank (m : MachD) (L R : DfaD) : InAll m L R ⟨0, [], []⟩ := fun K _ => rndA_start m L R K
theorem inAll_step {m : MachD} {L R : DfaD} {c : ConfD} (hm : machOk m = true) (hL : dfaOk L m.sy = true) (hR : dfaOk R m.sy = true) (hc : confB m c = true) (hn : ¬ lookI m c = noR) (h : InAll m L R c) : InAll m L R (stepI (lookI m c) c) := by
  intro K hK
  obtain ⟨i, hi, e⟩ := List.getElem_of_mem (h K hK)
  exact rndA_done (i := i) (by omega) (by rw [List.getElem?_eq_getElem hi, e]) _ (abs_step hm hL hR (conf_good hc).1 hn)
theorem conf_next {m : MachD} {c : ConfD} (hm : machOk m = true) (hc : confB m c = true) (hn : ¬ lookI m c = noR) (n1 : c.l.length ≤ 199) (n2 : c.r.length ≤ 198) : confB m (stepI (lookI m c) c) = true := by
  obtain ⟨hg, _, ht⟩ := conf_good hc
  have hl := stepI_lens (lookI m c) c
  refine conf_back (hg.step hm hn) ⟨by omega, by omega⟩ ?_
  unfold stepI
  split
  · exact ⟨tidy_push ht.1, tidy_drop ht.2⟩
  · exact ⟨tidy_drop ht.1, tidy_push (tidy_push (tidy_drop ht.2))⟩
theorem blkInts {w : World} {g : Nat} {t : TypeId} {zs : List Int} (h : Blk w g t (ivs zs).toArray) (hl : zs.length ≤ 1000) : Ints w (.slice (some ⟨g, 0, none⟩) zs.length zs.length) zs := by
  refine ⟨_, zs.length, rfl, Nat.le_refl _, by omega, by simp, fun _ => ⟨g, 0, rfl, fun j hj => ?_⟩⟩
  rw [Nat.zero_add, h.cell j]
  simp
/-- Two valid automata in two blocks. -/
def TwoD (wb : World) (gl gr : Nat) (w : World) : Prop :=
  ∃ (L R : DfaD) (uv tv : Value), dfaOk L 2 = true ∧ dfaOk R 2 = true ∧ Blk w gl 30 #[.int .i64 L.st, uv] ∧ Blk w gr 30 #[.int .i64 R.st, tv] ∧ Ints w uv L.nx ∧ Ints w tv R.nx ∧ Ext wb w
/-- A constant automaton is stored in a block. -/
theorem dfa_put {wb wa : World} {g : Nat} {x y : Value} (st : Int) (zs : List Int) (b : Blk wa g 30 #[x, y]) (hg : wb.heap.size ≤ g) (hX : Ext wb wa) (X : World)
    (hE : ((wa.alloc (.cells (ivs zs).toArray 2)).setCell ⟨g, 0, none⟩ (.int .i64 st)).setCell ⟨g, 1, none⟩ (.slice (some ⟨wa.heap.size, 0, none⟩) zs.length zs.length) = X) :
    Blk X g 30 #[.int .i64 st, .slice (some ⟨wa.heap.size, 0, none⟩) zs.length zs.length] ∧ Blk X wa.heap.size 2 (ivs zs).toArray ∧ Ext wb X ∧ ∀ g' t' cs', g' ≠ g → Blk wa g' t' cs' → Blk X g' t' cs' := by
  have hl := b.lt
  subst hE
  have E1 := Ext.alloc wa (.cells (ivs zs).toArray 2)
  refine ⟨((b.ext E1).set_ 0 _).set_ 1 _, ?_, ((hX.trans E1).setCell (p := ⟨g, 0, none⟩) hg _).setCell (p := ⟨g, 1, none⟩) hg _, fun g' t' cs' hne hb => ?_⟩
  · exact ((Blk.new wa _ _ _ rfl).far (p := ⟨g, 0, none⟩) (by show wa.heap.size ≠ g; omega) _).far (p := ⟨g, 1, none⟩) (by show wa.heap.size ≠ g; omega) _
  · exact ((hb.ext E1).far (p := ⟨g, 0, none⟩) hne _).far (p := ⟨g, 1, none⟩) hne _
/-- The loop's state. -/
structure AbLoop (wb w5 : World) (gc : Nat) (m : MachD) (L R : DfaD) (n : Nat) (c : ConfD) (lv rv : Value) (wr : World) : Prop where
  ext : Ext wb wr
  keep : KeepB (gc + 1) w5 wr
  blk : Blk wr gc 35 #[.int .i64 c.q, lv, rv]
  ol : ∃ b, OwnInts b wr lv c.l
  or : ∃ b, OwnInts b wr rv c.r
  hc : confB m c = true
  hin : InAll m L R c
  n1 : c.l.length ≤ n
  n2 : c.r.length ≤ n + 1
theorem AbLoop.next {wb w5 wr w9 : World} {gc n : Nat} {m : MachD} {L R : DfaD} {c c' : ConfD} {lv rv lv' rv' : Value} {b1 b2 : Nat} (h : AbLoop wb w5 gc m L R n c lv rv wr) (hg : wb.heap.size = gc) (hx : Ext wr w9)
    (o1 : OwnInts b1 w9 lv' c'.l) (o2 : OwnInts b2 w9 rv' c'.r) (hc : confB m c' = true) (hin : InAll m L R c') (n1 : c'.l.length ≤ n + 1) (n2 : c'.r.length ≤ n + 2) :
    AbLoop wb w5 gc m L R (n + 1) c' lv' rv' ((((w9.alloc (.cells #[.int .i64 c'.q, lv', rv'] 35)).setCell ⟨gc, 0, none⟩ (.int .i64 c'.q)).setCell ⟨gc, 1, none⟩ lv').setCell ⟨gc, 2, none⟩ rv') := by
  have E := Ext.alloc w9 (.cells #[.int .i64 c'.q, lv', rv'] 35)
  have hb := (h.blk.ext hx).ext E
  have f1 := own_far_blk (o1.ext E) hb (by decide)
  have f2 := own_far_blk (o2.ext E) hb (by decide)
  refine ⟨?_, ?_, ?_, ⟨b1, ?_⟩, ⟨b2, ?_⟩, hc, hin, n1, n2⟩
  · exact ((((h.ext.trans hx).trans E).setCell (p := ⟨gc, 0, none⟩) (Nat.le_of_eq hg) _).setCell (p := ⟨gc, 1, none⟩) (Nat.le_of_eq hg) _).setCell (p := ⟨gc, 2, none⟩) (Nat.le_of_eq hg) _
  · exact (((h.keep.trans (KeepB.of_ext (hx.trans E))).trans (KeepB.setCell _ (p := ⟨gc, 0, none⟩) (Nat.lt_succ_self _) _)).trans (KeepB.setCell _ (p := ⟨gc, 1, none⟩) (Nat.lt_succ_self _) _)).trans (KeepB.setCell _ (p := ⟨gc, 2, none⟩) (Nat.lt_succ_self _) _)
  · exact ((hb.set_ 0 _).set_ 1 _).set_ 2 _
  · exact ownsRow_far (ownsRow_far (ownsRow_far (o1.ext E) f1 _) f1 _) f1 _
  · exact ownsRow_far (ownsRow_far (ownsRow_far (o2.ext E) f2 _) f2 _) f2 _
theorem dfaL : dfaOk ⟨1, [0, 0]⟩ 2 = true := by decide
theorem dfaR : dfaOk ⟨2, [0, 1, 1, 0]⟩ 2 = true := by decide
set_option maxRecDepth 20000 in
set_option maxHeartbeats 4000000 in
theorem law12_c (v u : Value) (bs ms : List Int) (w : World) (h : Bytes w v bs) (h' : Bytes w u ms) :
    Calls Tryz.prog 3 #[v, u] w fun e w' => e = .returned (.bool true) ∧ Ext w w' := by
  obtain ⟨A, c, rfl, _, _, _⟩ := h.1.form
  obtain ⟨A', c', rfl, _, _, _⟩ := h'.1.form
  go_enter Tryz.func3, Tryz.ntmps3
  go_wp2_with fail
  refine (b10Long_c _ bs w h).mono ?_
  rintro e w' ⟨rfl, rfl⟩
  by_cases l1 : 1048576 < bs.length
  · rw [decide_eq_true l1]
    go_wp2
    go_ret
    exact ⟨rfl, Ext.refl _⟩
  rw [decide_eq_false l1]
  go_wp2_with fail
  refine (b10Long_c _ ms w h').mono ?_
  rintro e w' ⟨rfl, rfl⟩
  by_cases l2 : 1048576 < ms.length
  · rw [decide_eq_true l2]
    go_wp2
    go_ret
    exact ⟨rfl, Ext.refl _⟩
  rw [decide_eq_false l2]
  go_wp2_with fail
  refine (B10Decided_v _ bs w h).mono ?_
  rintro e w1 ⟨⟨m, rv, rfl, ho1, hm, hm2, hm4⟩, hx1⟩
  have HM := Lib.hid hm
  have HM2 := Lib.hid hm2
  have HM4 := Lib.hid hm4
  clear hm hm2 hm4
  obtain ⟨Ar, cr, rfl, _, _, _⟩ := (ownsRow_row ho1).form
  obtain ⟨W, hW⟩ : ∃ W, w1.alloc (.cells #[.int .i64 m.sy, .int .i64 m.st, .slice Ar m.rules.length cr] 26) = W := ⟨_, rfl⟩
  have hXW : Ext w1 W := by rw [← hW]; exact Ext.alloc _ _
  have bM : Blk W w1.heap.size 26 #[.int .i64 m.sy, .int .i64 m.st, .slice Ar m.rules.length cr] := by rw [← hW]; exact Blk.new _ _ _ _ rfl
  have hX := hx1.trans hXW
  have hMr : Rules W (.slice Ar m.rules.length cr) m.rules := OwnRules.rules (OwnRules.ext ho1 hXW)
  go_wp2_with fail
  try rw [hW]
  clear hW
  refine (B10Dfa_c _ bs W (h.ext hX)).mono ?_
  rintro e w2 ⟨⟨L, lv, sy, rfl, hoL, L0, L20, Ln⟩, hx2⟩
  obtain ⟨Al, cl, rfl, _, _⟩ := hoL.ints.form
  obtain ⟨W2, hW2⟩ : ∃ W', w2.alloc (.cells #[.int .i64 L.st, .slice Al L.nx.length cl] 30) = W' := ⟨_, rfl⟩
  have hXW2 : Ext w2 W2 := by rw [← hW2]; exact Ext.alloc _ _
  have bL : Blk W2 w2.heap.size 30 #[.int .i64 L.st, .slice Al L.nx.length cl] := by rw [← hW2]; exact Blk.new _ _ _ _ rfl
  have hX2 := (hX.trans hx2).trans hXW2
  go_wp2_with fail
  try rw [hW2]
  clear hW2
  refine (B10Dfa_c _ ms W2 (h'.ext hX2)).mono ?_
  rintro e w3 ⟨⟨R, tv, sy', rfl, hoR, R0, R20, Rn⟩, hx3⟩
  obtain ⟨At, ct, rfl, _, _⟩ := hoR.ints.form
  obtain ⟨W3, hW3⟩ : ∃ W', w3.alloc (.cells #[.int .i64 R.st, .slice At R.nx.length ct] 30) = W' := ⟨_, rfl⟩
  have hXW3 : Ext w3 W3 := by rw [← hW3]; exact Ext.alloc _ _
  have bR : Blk W3 w3.heap.size 30 #[.int .i64 R.st, .slice At R.nx.length ct] := by rw [← hW3]; exact Blk.new _ _ _ _ rfl
  have hX3 := (hX2.trans hx3).trans hXW3
  have hiL := (hoL.ext hXW2).ext (hx3.trans hXW3)
  have hiR := hoR.ext hXW3
  have bL3 := bL.ext (hx3.trans hXW3)
  have bM3 := bM.ext (((hx2.trans hXW2).trans hx3).trans hXW3)
  have hMr3 := hMr.ext (((hx2.trans hXW2).trans hx3).trans hXW3)
  obtain ⟨gm, hgm⟩ : ∃ g, g = w1.heap.size := ⟨_, rfl⟩
  obtain ⟨gl, hgl⟩ : ∃ g, g = w2.heap.size := ⟨_, rfl⟩
  obtain ⟨gr, hgr⟩ : ∃ g, g = w3.heap.size := ⟨_, rfl⟩
  have gmw : Hid (gm < W.heap.size) := Lib.hid (by rw [hgm]; exact bM.lt)
  have gWl : Hid (W.heap.size ≤ gl) := Lib.hid (by rw [hgl]; exact hx2.size)
  have glr : Hid (gl < gr) := Lib.hid (by rw [hgl, hgr]; exact Nat.lt_of_lt_of_le bL.lt hx3.size)
  have hXWW := Lib.hid (((hx2.trans hXW2).trans hx3).trans hXW3)
  go_upto_region 6 with fail
  try rw [hW3]
  rw [← hgm, ← hgl, ← hgr]
  rw [← hgm] at bM bM3
  rw [← hgl] at bL bL3
  rw [← hgr] at bR
  have DL : ∀ W', Ext W3 W' → Dfas W' (.agg #[.int .i64 L.st, .slice Al L.nx.length cl]) L := fun W' hx => ⟨_, rfl, (OwnInts.ints hiL).ext hx⟩
  have DR : ∀ W', Ext W3 W' → Dfas W' (.agg #[.int .i64 R.st, .slice At R.nx.length ct]) R := fun W' hx => ⟨_, rfl, (OwnInts.ints hiR).ext hx⟩
  clear hoL hoR bL hXW hXW2 hXW3 hx1 hx2 hx3 hX2 ho1 hgm hgl hgr hX3 bM3 hMr3
  have hXWW0 := Lib.hid hX
  go_cut [54] (fun s wx => s = .bool (!(dfaOk L 2 && dfaOk R 2)) ∧ Ext W3 wx)
  case first =>
    have l0 := bL3.cell 0
    have l1 := bL3.cell 1
    simp only [List.getElem?_toArray, List.getElem?_cons_zero, List.getElem?_cons_succ] at l0 l1
    go_wp2_with fail
    refine (specValidDfa_c _ L 2 W3 (DL _ (Ext.refl _)) (by omega) (by omega)).mono ?_
    rintro e w4 ⟨rfl, hx4⟩
    have r0 := (bR.ext hx4).cell 0
    have r1 := (bR.ext hx4).cell 1
    simp only [List.getElem?_toArray, List.getElem?_cons_zero, List.getElem?_cons_succ] at r0 r1
    cases hA : dfaOk L 2 with
    | false =>
      clear l0 l1
      go_wp2_with fail
      go_meet
      exact ⟨by simp [hA], hx4⟩
    | true =>
      clear l0 l1
      go_wp2_with fail
      refine (specValidDfa_c _ R 2 w4 (DR _ hx4) (by omega) (by omega)).mono ?_
      rintro e w5 ⟨rfl, hx5⟩
      go_wp2_with fail
      go_meet
      exact ⟨by simp [hA], hx4.trans hx5⟩
  case rest =>
    rename World => wa
    obtain ⟨rfl, hxa⟩ := hcut
    go_upto_if 54 with fail
    have hxWa : Ext W wa := hXWW.out.trans hxa
    have bLa := bL3.ext hxa
    have bRa := bR.ext hxa
    have gLa := bLa.lt
    have gRa := bRa.lt
    have gls : Hid (gl < wa.heap.size) := Lib.hid gLa
    have grs : Hid (gr < wa.heap.size) := Lib.hid gRa
    have hiLa := (OwnInts.ints hiL).ext hxa
    have hiRa := (OwnInts.ints hiR).ext hxa
    clear DL DR hiL hiR bL3 bR gLa gRa
    go_cut [] (fun wx => TwoD W gl gr wx)
    case first =>
      cases hA : dfaOk L 2 && dfaOk R 2 with
      | true =>
        go_wp2_with fail
        go_meet
        rw [Bool.and_eq_true] at hA
        exact ⟨L, R, _, _, hA.1, hA.2, bLa, bRa, hiLa, hiRa, hxWa⟩
      | false =>
        have E1 := Ext.alloc wa (.cells #[.int .i64 0, .int .i64 0] 2)
        have b1 := bLa.ext E1
        have l0 := b1.cell 0
        have l1 := b1.cell 1
        have lf0 := b1.frozen 0
        have lf1 := b1.frozen 1
        simp only [List.getElem?_toArray, List.getElem?_cons_zero, List.getElem?_cons_succ] at l0 l1
        go_upto_region 8 with fail
        obtain ⟨X1, hX1⟩ : ∃ X, ((wa.alloc (.cells (ivs [0, 0]).toArray 2)).setCell ⟨gl, 0, none⟩ (.int .i64 1)).setCell ⟨gl, 1, none⟩ (.slice (some ⟨wa.heap.size, 0, none⟩) 2 2) = X := ⟨_, rfl⟩
        obtain ⟨bl1, br1, hw1, far1⟩ := dfa_put (wb := W) 1 [0, 0] bLa gWl.out hxWa X1 hX1
        have brr := far1 gr _ _ (by have := glr.out; omega) bRa
        have hX1' : ((wa.alloc (.cells #[.int .i64 0, .int .i64 0] 2)).setCell ⟨gl, 0, none⟩ (.int .i64 1)).setCell ⟨gl, 1, none⟩ (.slice (some ⟨wa.heap.size, 0, none⟩) 2 2) = X1 := hX1
        rw [hX1']
        clear hX1 hX1' far1 l0 l1 lf0 lf1 b1 E1
        have E1 := Ext.alloc X1 (.cells #[.int .i64 0, .int .i64 1, .int .i64 1, .int .i64 0] 2)
        have b1 := brr.ext E1
        have l0 := b1.cell 0
        have l1 := b1.cell 1
        have lf0 := b1.frozen 0
        have lf1 := b1.frozen 1
        simp only [List.getElem?_toArray, List.getElem?_cons_zero, List.getElem?_cons_succ] at l0 l1
        go_wp2_with fail
        go_meet
        obtain ⟨bl2, br2, hw2, far2⟩ := dfa_put (wb := W) 2 [0, 1, 1, 0] brr (by have := gWl.out; have := glr.out; omega) hw1 _ rfl
        exact ⟨⟨1, [0, 0]⟩, ⟨2, [0, 1, 1, 0]⟩, _, _, dfaL, dfaR, far2 gl _ _ (by have := glr.out; omega) bl1, bl2, blkInts (far2 _ _ _ (by have := grs.out; omega) br1) (by simp), blkInts br2 (by simp), hw2⟩
    case rest =>
      rename World => wb
      obtain ⟨L, R, uv, tv, oL, oR, bL, bR, hu, ht, hxb⟩ := hcut
      have oL' : dfaOk L m.sy = true := by rw [HM2.out]; exact oL
      have oR' : dfaOk R m.sy = true := by rw [HM2.out]; exact oR
      have hn : ∀ K, (rndA m L R K).length ≤ 3000 := fun K => by
        have h1 := rndA_len HM.out oL' oR' K
        obtain ⟨_, hl1, _⟩ := dfaOk_parts oL
        obtain ⟨_, hr1, _⟩ := dfaOk_parts oR
        have h4 := HM4.out
        have h2 := HM2.out
        have : L.st.toNat * m.st.toNat * m.sy.toNat * R.st.toNat ≤ 20 * 3 * 2 * 20 := Nat.mul_le_mul (Nat.mul_le_mul (Nat.mul_le_mul (by omega) (by omega)) (by omega)) (by omega)
        omega
      obtain ⟨gc, hgc⟩ : ∃ g, wb.heap.size = g := ⟨_, rfl⟩
      obtain ⟨Wc, hWc⟩ : ∃ X, wb.alloc (.cells #[.int .i64 0, .slice none 0 0, .slice none 0 0] 35) = X := ⟨_, rfl⟩
      have hxc : Ext wb Wc := by rw [← hWc]; exact Ext.alloc _ _
      have bC : Blk Wc gc 35 #[.int .i64 0, .slice none 0 0, .slice none 0 0] := by rw [← hWc]; exact Blk.new _ _ _ _ hgc
      have hszc : Wc.heap.size = gc + 1 := by rw [← hWc, ← hgc]; exact Array.size_push _
      have hMb := hMr.ext hxb
      have bMb := bM.ext hxb
      obtain ⟨Al, cl, rfl, _, _⟩ := hu.form
      obtain ⟨At, ct, rfl, _, _⟩ := ht.form
      have kM := bMb.ext hxc
      have kL := bL.ext hxc
      have kR := bR.ext hxc
      have m0 := kM.cell 0
      have m1 := kM.cell 1
      have m2 := kM.cell 2
      have l0 := kL.cell 0
      have l1 := kL.cell 1
      have r0 := kR.cell 0
      have r1 := kR.cell 1
      simp only [List.getElem?_toArray, List.getElem?_cons_zero, List.getElem?_cons_succ] at m0 m1 m2 l0 l1 r0 r1
      have hcl := AbstractClosure_c m L R _ _ _ Wc (hMb.ext hxc) (hu.ext hxc) (ht.ext hxc) HM.out oL' oR' hn
      rw [hszc] at hcl
      rw [← hWc] at m0 m1 m2 l0 l1 r0 r1
      have HWc := Lib.hid hWc
      have HGc := Lib.hid hgc
      clear hWc hgc
      go_wp2_with fail
      rw [HWc.out, HGc.out]
      refine hcl.mono ?_
      rintro e w5 ⟨K, ul, yss, hK, rfl, hp, hrows, hx5⟩
      obtain ⟨Ay, cy, rfl, _, _⟩ := (hrows w5 (KeepB.refl _ _)).form
      have h5 := hxc.trans hx5
      have st0 : AbLoop wb w5 gc m L R 0 ⟨0, [], []⟩ (.slice none 0 0) (.slice none 0 0) w5 :=
        ⟨h5, KeepB.refl _ _, bC.ext hx5, ⟨0, World.ownsRow_nil ..⟩, ⟨0, World.ownsRow_nil ..⟩, conf_blank HM.out, inAll_blank _ _ _, Nat.le_refl _, Nat.le_succ _⟩
      have HK := Lib.hid hK
      have HP := Lib.hid hp
      have HG := Lib.hid HGc.out
      have hn0 := Lib.hid hn
      clear m0 m1 m2 l0 l1 r0 r1 hK hp hcl HWc HGc hn
      go_upto_block 0 with fail
      go_cut [] (fun wx => Ext wb wx)
      case first =>
        go_wp2_with fail
        go_loopw [13] (fun i wr => ∃ (n : Nat) (c : ConfD) (lv rv : Value), n ≤ 12 ∧ i = .int .i64 (n : Int) ∧ AbLoop wb w5 gc m L R n c lv rv wr) (fun i _ => 12 - (intOf i).toNat)
        case atStart => exact ⟨0, _, _, _, by omega, rfl, st0⟩
        case round =>
          clear st0
          obtain ⟨n, c, lv, rv, hn, rfl, st⟩ := hrel
          by_cases h12 : n < 12
          · obtain ⟨b1, o1⟩ := st.ol
            obtain ⟨b2, o2⟩ := st.or
            have kM := bMb.ext st.ext
            have kL := bL.ext st.ext
            have kR := bR.ext st.ext
            have m0 := kM.cell 0
            have m1 := kM.cell 1
            have m2 := kM.cell 2
            have l0 := kL.cell 0
            have l1 := kL.cell 1
            have r0 := kR.cell 0
            have r1 := kR.cell 1
            have c0 := st.blk.cell 0
            have c1 := st.blk.cell 1
            have c2 := st.blk.cell 2
            simp only [List.getElem?_toArray, List.getElem?_cons_zero, List.getElem?_cons_succ] at m0 m1 m2 l0 l1 r0 r1 c0 c1 c2
            go_wp2_with fail
            refine (AbstractOf_c m L R c _ _ _ _ _ wr (hMb.ext st.ext) (hu.ext st.ext) (ht.ext st.ext) o1.ints o2.ints o1.flat o2.flat HM.out oL' oR' st.hc).mono ?_
            rintro e w6 ⟨uo, rfl, ho, hx6⟩
            clear m0 m1 m2 l0 l1 r0 r1 c0 c1 c2
            have kM := kM.ext hx6
            have kL := kL.ext hx6
            have kR := kR.ext hx6
            have bC6 := st.blk.ext hx6
            have m0 := kM.cell 0
            have m1 := kM.cell 1
            have m2 := kM.cell 2
            have l0 := kL.cell 0
            have l1 := kL.cell 1
            have r0 := kR.cell 0
            have r1 := kR.cell 1
            have c0 := bC6.cell 0
            have c1 := bC6.cell 1
            have c2 := bC6.cell 2
            simp only [List.getElem?_toArray, List.getElem?_cons_zero, List.getElem?_cons_succ] at m0 m1 m2 l0 l1 r0 r1 c0 c1 c2
            have hX6 := st.ext.trans hx6
            obtain ⟨Ao, co, hform, _, _⟩ := ho.form
            have e4 : uo = .slice Ao 4 co := hform
            subst e4
            clear hform
            go_wp2_with fail
            refine (AcceptsConfig_c m L R c _ _ _ _ _ w6 (hMb.ext hX6) (hu.ext hX6) (ht.ext hX6) (o1.ext hx6).ints (o2.ext hx6).ints o1.flat o2.flat HM.out oL' oR' st.hc hn0.out).mono ?_
            rintro e w7 ⟨K', hK', rfl, hx7⟩
            rw [decide_eq_true (st.hin K' hK')]
            have hx67 := hx6.trans hx7
            have hX7 := st.ext.trans hx67
            have hrow := b10Row_c w7 _ _ yss _ (hrows w7 (st.keep.trans (KeepB.of_ext hx67))) (ho.ext hx7)
            rw [decide_eq_true (HP.out.mem_iff.2 (List.mem_map_of_mem (st.hin K HK.out)))] at hrow
            clear m0 m1 m2 l0 l1 r0 r1 c0 c1 c2
            have kM := kM.ext hx7
            have bC7 := bC6.ext hx7
            go_wp2_with fail
            refine hrow.mono ?_
            rintro e w8 ⟨rfl, hx8⟩
            have hx68 := hx67.trans hx8
            have hX8 := st.ext.trans hx68
            have kM := kM.ext hx8
            have bC8 := bC7.ext hx8
            have m0 := kM.cell 0
            have m1 := kM.cell 1
            have m2 := kM.cell 2
            have c0 := bC8.cell 0
            have c1 := bC8.cell 1
            have c2 := bC8.cell 2
            simp only [List.getElem?_toArray, List.getElem?_cons_zero, List.getElem?_cons_succ] at m0 m1 m2 c0 c1 c2
            go_wp2_with fail
            refine (b10Step_c m c _ _ _ w8 (hMb.ext hX8) (o1.ext hx68).ints (o2.ext hx68).ints HM.out st.hc (by have := st.n1; omega) (by have := st.n2; omega)).mono ?_
            rintro e w9 ⟨hx9, hres⟩
            have hx69 := hx68.trans hx9
            have hX9 := st.ext.trans hx69
            have bC9 := bC8.ext hx9
            clear m0 m1 m2 c0 c1 c2
            rcases hres with ⟨hno, v, c', rfl, hv⟩ | ⟨hno, v, rfl, hv⟩
            · obtain ⟨lv', rv', bl', br', rfl, ol', or'⟩ := hv
              obtain ⟨Al', cl', rfl, _, _⟩ := ol'.ints.form
              obtain ⟨Ar', cr', rfl, _, _⟩ := or'.ints.form
              have hXE := Lib.hid (hX9.trans (Ext.alloc w9 (.cells #[.int .i64 c'.q, .slice Al' c'.l.length cl', .slice Ar' c'.r.length cr'] 35)))
              go_wp2_with fail
              go_meet
              exact hXE.out
            · obtain ⟨lv', rv', bl', br', rfl, ol', or'⟩ := hv
              have hl := stepI_lens (lookI m c) c
              have hcn := conf_next HM.out st.hc hno (by have := st.n1; omega) (by have := st.n2; omega)
              have hin := inAll_step HM.out oL' oR' st.hc hno st.hin
              have stn : ∀ lv' rv', OwnInts bl' w9 lv' (stepI (lookI m c) c).l → OwnInts br' w9 rv' (stepI (lookI m c) c).r → _ := fun lv' rv' h1 h2 => st.next (lv' := lv') (rv' := rv') HG.out hx69 h1 h2 hcn hin (by have := st.n1; omega) (by have := st.n2; omega)
              have stn2 := stn _ _ ol' or'
              clear stn hl hcn hin hno hrow
              simp only [cR] at ol' or' ⊢
              generalize stepI (lookI m c) c = c' at *
              obtain ⟨Al', cl', rfl, _, _⟩ := ol'.ints.form
              obtain ⟨Ar', cr', rfl, _, _⟩ := or'.ints.form
              have STN := Lib.hid stn2
              clear stn2
              have bN := bC9.ext (Ext.alloc w9 (.cells #[.int .i64 c'.q, .slice Al' c'.l.length cl', .slice Ar' c'.r.length cr'] 35))
              have f0 := bN.frozen 0
              have f1 := bN.frozen 1
              have f2 := bN.frozen 2
              have c0 := bN.cell 0
              have c1 := bN.cell 1
              have c2 := bN.cell 2
              simp only [List.getElem?_toArray, List.getElem?_cons_zero, List.getElem?_cons_succ] at c0 c1 c2
              go_wp2_with fail
              go_roundw
              case rel => exact ⟨n + 1, c', _, _, by omega, by go_num, STN.out⟩
              case measure => simp [intOf]; omega
          · go_wp2_with fail
            go_meet
            exact st.ext
      case rest =>
        rename World => wl
        clear hrows hx5 st0 hxc bC HK HP bMb bM hMb hMr hX
        have kL := bL.ext hcut
        have kR := bR.ext hcut
        have l0 := kL.cell 0
        have l1 := kL.cell 1
        have r0 := kR.cell 0
        have r1 := kR.cell 1
        simp only [List.getElem?_toArray, List.getElem?_cons_zero, List.getElem?_cons_succ] at l0 l1 r0 r1
        have huL := hu.ext hcut
        have htL := ht.ext hcut
        have hXl := (hXWW0.out.trans hxb).trans hcut
        go_wp2_with fail
        refine (ProductDfa_c L R _ _ 2 wl huL htL oL oR).mono ?_
        rintro e wp ⟨hxp, ⟨h20, rfl⟩ | ⟨h20, vp, rfl, hP⟩⟩
        · have hXp := Lib.hid ((hXl.trans hxp).trans (Ext.alloc wp (.cells #[.int .i64 0, .slice none 0 0] 30)))
          go_wp2_with fail
          go_ret
          exact ⟨by simp, hXp.out⟩
        · obtain ⟨pv, rfl, hP⟩ := hP
          obtain ⟨Ap, cp, rfl, _, _⟩ := hP.form
          have hPok := prodD_ok oL oR h20
          have hrun : ∀ xs : List Int, (∀ z ∈ xs, 0 ≤ z ∧ z < 2) → runD (prodD L R 2) 2 xs = runD L 2 xs * R.st + runD R 2 xs := fun xs hxs => by
            have := prodD_run oL oR h20 (w := xs.reverse) (fun z hz => hxs z (List.mem_reverse.1 hz))
            rwa [List.reverse_reverse] at this
          generalize prodD L R 2 = P at *
          have HRUN := Lib.hid hrun
          clear hrun
          obtain ⟨Wp, hWp⟩ : ∃ X, wp.alloc (.cells #[.int .i64 P.st, .slice Ap P.nx.length cp] 30) = X := ⟨_, rfl⟩
          obtain ⟨gp, hgp⟩ : ∃ g, wp.heap.size = g := ⟨_, rfl⟩
          have eP : Ext wp Wp := by rw [← hWp]; exact Ext.alloc _ _
          have bP : Blk Wp gp 30 #[.int .i64 P.st, .slice Ap P.nx.length cp] := by rw [← hWp]; exact Blk.new _ _ _ _ hgp
          have hXP := hxp.trans eP
          have kL := kL.ext hXP
          have kR := kR.ext hXP
          have hPi := hP.ext eP
          have hXp := hXl.trans hXP
          have hO := B10Over_c _ ms 2 Wp (h'.ext hXp) (by omega) (by omega)
          have HWp := Lib.hid hWp
          have HGp := Lib.hid hgp
          clear hWp hgp l0 l1 r0 r1
          go_wp2_with fail
          rw [HWp.out, HGp.out]
          refine hO.mono ?_
          rintro e wo ⟨⟨uo, xs, rfl, hxs, hl7, hz⟩, hxo⟩
          obtain ⟨Ax, cx, rfl, _, _⟩ := hxs.ints.form
          have kL := kL.ext hxo
          have kR := kR.ext hxo
          have bPo := bP.ext hxo
          have hXo := hXp.trans hxo
          have l0 := kL.cell 0
          have l1 := kL.cell 1
          simp only [List.getElem?_toArray, List.getElem?_cons_zero, List.getElem?_cons_succ] at l0 l1
          have RL := RunDfa_c _ _ L xs 2 wo ⟨_, rfl, (huL.ext hXP).ext hxo⟩ hxs.ints oL (by omega) hz
          go_wp2_with fail
          refine RL.mono ?_
          rintro e wq ⟨rfl, hxq⟩
          clear l0 l1 RL
          have kR := kR.ext hxq
          have r0 := kR.cell 0
          have r1 := kR.cell 1
          simp only [List.getElem?_toArray, List.getElem?_cons_zero, List.getElem?_cons_succ] at r0 r1
          have RR := RunDfa_c _ _ R xs 2 wq ⟨_, rfl, ((htL.ext hXP).ext hxo).ext hxq⟩ (hxs.ext hxq).ints oR (by omega) hz
          go_wp2_with fail
          refine RR.mono ?_
          rintro e wr ⟨rfl, hxr⟩
          clear r0 r1 RR
          have bPr := (bPo.ext hxq).ext hxr
          have p0 := bPr.cell 0
          have p1 := bPr.cell 1
          simp only [List.getElem?_toArray, List.getElem?_cons_zero, List.getElem?_cons_succ] at p0 p1
          have RP := RunDfa_c _ _ P xs 2 wr ⟨_, rfl, ((hPi.ext hxo).ext hxq).ext hxr⟩ ((hxs.ext hxq).ext hxr).ints hPok (by omega) hz
          rw [HRUN.out xs hz] at RP
          go_wp2_with fail
          refine RP.mono ?_
          rintro e ws ⟨rfl, hxs'⟩
          clear p0 p1 RP
          have kR := (kR.ext hxr).ext hxs'
          have r0 := kR.cell 0
          simp only [List.getElem?_toArray, List.getElem?_cons_zero, List.getElem?_cons_succ] at r0
          have hr1 : ∀ d : DfaD, dfaOk d 2 = true → 0 ≤ runD d 2 xs ∧ runD d 2 xs < d.st := fun d hd => by
            have := runD_range hd (w := xs.reverse) (fun z hz' => hz z (List.mem_reverse.1 hz'))
            rwa [List.reverse_reverse] at this
          have hrL := hr1 L oL
          have hrR := hr1 R oR
          obtain ⟨_, hl1, _⟩ := dfaOk_parts oL
          obtain ⟨_, hr2, _⟩ := dfaOk_parts oR
          generalize runD L 2 xs = x at *
          generalize runD R 2 xs = y at *
          have hxy : 0 ≤ x * R.st ∧ x * R.st ≤ 400 := by
            have e1 : 0 ≤ x * R.st := Int.mul_nonneg hrL.1 (by omega)
            have e2 : x * R.st ≤ 20 * 20 := Int.mul_le_mul (by omega) hr2.2 (by omega) (by omega)
            omega
          have hw1 : IntKind.i64.wrap (x * R.st) = x * R.st := IntWalk.i64_in _ (by omega)
          have hw2 : IntKind.i64.wrap (x * R.st + y) = x * R.st + y := IntWalk.i64_in _ (by omega)
          have hXE := Lib.hid ((((hXo.trans hxq).trans hxr).trans hxs'))
          go_wp2_with fail
          go_ret
          exact ⟨by simp, hXE.out⟩
end Go.Proofs.YtkdigfgodjjiaaaGreat
