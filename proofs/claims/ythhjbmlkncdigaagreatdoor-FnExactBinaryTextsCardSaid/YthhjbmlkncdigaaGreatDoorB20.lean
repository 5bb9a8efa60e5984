/- Plain words: lists of texts as cells; the letters of a valid configuration.
Words for the texts of a run by the program's runner: what holds between two rounds, and what is kept.
Contract: the text of a configuration of the program. -/
import Derived.Test.YthhjbmlkncdigaaGreatDoorB18
import Derived.Test.YthhjbmlkncdigaaGreatDoorB19
import Derived.Test.YthhjbmlkncdigaaGreatDoorB17
import Derived.Test.YthhjbmlkncdigaaGreatDoorB14
import Derived.Test.YthhjbmlkncdigaaGreatDoorB16
import Derived.Test.YthhjbmlkncdigaaGreatDoorB10
import Derived.Test.YthhjbmlkncdigaaGreatDoorB04
import Derived.Test.YthhjbmlkncdigaaGreatDoorB15
section
set_option linter.unusedSimpArgs false
set_option linter.unusedVariables false
namespace Go.Proofs.YthhjbmlkncdigaaGreatDoor
open Go Go.RowKit Go.Proofs
def svB (xs : List (List UInt8)) : List Value := xs.map fun l => Value.string (bsS l)
theorem conf_digs {m : MachD} {c : ConfD} (hm : machOk m = true) (hc : confB m c = true) : (0 ≤ c.q ∧ c.q ≤ 999) ∧ (c.l.length ≤ 200 ∧ ∀ z ∈ c.l, 0 ≤ z ∧ z ≤ 9) ∧ (c.r.length ≤ 200 ∧ ∀ z ∈ c.r, 0 ≤ z ∧ z ≤ 9) := by
  obtain ⟨s1, s2, t1, t2⟩ := machOk_bounds hm
  simp only [confB, sideOk, Bool.and_eq_true, decide_eq_true_eq, List.all_eq_true] at hc
  obtain ⟨⟨h1, ⟨⟨h2, h3⟩, _⟩⟩, ⟨⟨h4, h5⟩, _⟩⟩ := hc
  have h1 := inB_iff.1 h1
  refine ⟨by omega, ⟨by omega, fun z hz => ?_⟩, ⟨by omega, fun z hz => ?_⟩⟩
  · have := inB_iff.1 (h3 z hz); omega
  · have := inB_iff.1 (h5 z hz); omega
theorem confT_app (c : ConfD) : bsS (digB c.l.reverse) ++ ⟨#[40]⟩ ++ itoaS c.q ++ ⟨#[41]⟩ ++ bsS (digB c.r) = bsS (confT c) := by
  have e : confT c = digB c.l.reverse ++ [40] ++ Lib.itoa c.q ++ [41] ++ digB c.r := by
    unfold confT
    simp
  rw [e, ← bs_app, ← bs_app, ← bs_app, ← bs_app]
  rfl
end Go.Proofs.YthhjbmlkncdigaaGreatDoor
end
section
set_option linter.unusedSimpArgs false
set_option linter.unusedVariables false
namespace Go.Proofs.YthhjbmlkncdigaaGreatDoor
open Go Go.RowKit Go.Proofs Go.Shelf
set_option maxHeartbeats 400000
theorem RunAt.lower {w0 w1 w : World} {b : Nat} {m : MachD} {d : ConfD} {mv lv rv : Value} (h : RunAt w1 w b m d mv lv rv) (he : Ext w0 w1) (hr : Rules w0 mv m.rules) : RunAt w0 w b m d mv lv rv :=
  ⟨h.blk, hr, he.trans h.ext0, ownsRow_base h.l he.size, ownsRow_base h.r he.size, h.ap, Nat.le_trans he.size h.low⟩
/-- One row apart from a runner is written on. -/
theorem RunAt.row {w0 A B : World} {b : Nat} {m : MachD} {d : ConfD} {mv lv rv : Value} (h : RunAt w0 A b m d mv lv rv) {row : Option Nat} (hg : A.grownBy B row) (hr : ∀ r, row = some r → w0.heap.size ≤ r ∧ Apt b r lv rv) : RunAt w0 B b m d mv lv rv := by
  refine ⟨h.blk.kept hg (fun e => (hr b e.symm).2.nb rfl), h.rules0, h.ext0.grown hg (fun k hk => (hr k hk).1), ?_, ?_, h.ap, h.low⟩
  · exact own_same h.l (fun g hgl => hg.block g (h.l.lt g hgl).2 (fun e => (hr g e.symm).2.nl hgl))
  · exact own_same h.r (fun g hgl => hg.block g (h.r.lt g hgl).2 (fun e => (hr g e.symm).2.nr hgl))
/-- The variables of the run: the function, both results, the runner, the texts. -/
structure VarT (W : World) (k h b : Nat) (fv : Value) (x : Int) (tv : Value) : Prop where
  f : Blk W (k + 2) 84 #[fv]
  r : Blk W (k + 3) 30 #[.slice none 0 0]
  e : Blk W (k + 4) 2 #[.int .i64 x]
  p : Blk W (h + 1) 112 #[.pointer (some ⟨b, 0, none⟩)]
  t : Blk W (h + 2) 30 #[tv]
theorem VarT.same {W W' : World} {k h b : Nat} {fv tv : Value} {x : Int} (v : VarT W k h b fv x tv) (hs : ∀ i, (i = k + 2 ∨ i = k + 3 ∨ i = k + 4 ∨ i = h + 1 ∨ i = h + 2) → W'.heap[i]? = W.heap[i]?) : VarT W' k h b fv x tv :=
  ⟨(hs _ (.inl rfl)).trans v.f, (hs _ (.inr (.inl rfl))).trans v.r, (hs _ (.inr (.inr (.inl rfl)))).trans v.e, (hs _ (.inr (.inr (.inr (.inl rfl))))).trans v.p, (hs _ (.inr (.inr (.inr (.inr rfl))))).trans v.t⟩
theorem VarT.kept {W W' : World} {k h b : Nat} {fv tv : Value} {x : Int} (v : VarT W k h b fv x tv) {row : Option Nat} (hg : W.grownBy W' row) (hr : ∀ r, row = some r → (∃ o : Obj, W.heap[r]? = some o ∧ o.isCells = false) ∨ (r ≠ k + 2 ∧ r ≠ k + 3 ∧ r ≠ k + 4 ∧ r ≠ h + 1 ∧ r ≠ h + 2)) : VarT W' k h b fv x tv := by
  have key : ∀ {i : Nat} {t : TypeId} {cs : Array Value}, Blk W i t cs → (i = k + 2 ∨ i = k + 3 ∨ i = k + 4 ∨ i = h + 1 ∨ i = h + 2) → Blk W' i t cs := by
    intro i t cs hb hi
    refine hb.kept hg (fun e => ?_)
    rcases hr i e.symm with h1 | ⟨h1, h2, h3, h4, h5⟩
    · exact not_cells (o := .cells #[] 0) hb h1
    · rcases hi with h' | h' | h' | h' | h'
      · exact h1 h'
      · exact h2 h'
      · exact h3 h'
      · exact h4 h'
      · exact h5 h'
  exact ⟨key v.f (.inl rfl), key v.r (.inr (.inl rfl)), key v.e (.inr (.inr (.inl rfl))), key v.p (.inr (.inr (.inr (.inl rfl)))), key v.t (.inr (.inr (.inr (.inr rfl))))⟩
theorem VarT.ext {W W' : World} {k h b : Nat} {fv tv : Value} {x : Int} (v : VarT W k h b fv x tv) (he : Ext W W') : VarT W' k h b fv x tv := ⟨v.f.ext he, v.r.ext he, v.e.ext he, v.p.ext he, v.t.ext he⟩
theorem VarT.setT {W : World} {k h b : Nat} {fv tv : Value} {x : Int} (v : VarT W k h b fv x tv) (hk : k + 5 ≤ h) (u : Value) : VarT (W.setCell ⟨h + 2, 0, none⟩ u) k h b fv x u :=
  ⟨v.f.far (by show k + 2 ≠ h + 2; omega) u, v.r.far (by show k + 3 ≠ h + 2; omega) u, v.e.far (by show k + 4 ≠ h + 2; omega) u, v.p.far (by show h + 1 ≠ h + 2; omega) u, v.t.set_ 0 u⟩
theorem VarT.setR {W : World} {k h b : Nat} {fv tv : Value} {x : Int} (v : VarT W k h b fv x tv) (hk : k + 5 ≤ h) : VarT (W.setCell ⟨k + 3, 0, none⟩ (.slice none 0 0)) k h b fv x tv :=
  ⟨v.f.far (by show k + 2 ≠ k + 3; omega) _, v.r.set_ 0 _, v.e.far (by show k + 4 ≠ k + 3; omega) _, v.p.far (by show h + 1 ≠ k + 3; omega) _, v.t.far (by show h + 2 ≠ k + 3; omega) _⟩
theorem VarT.setE {W : World} {k h b : Nat} {fv tv : Value} {x : Int} (v : VarT W k h b fv x tv) (hk : k + 5 ≤ h) (y : Int) : VarT (W.setCell ⟨k + 4, 0, none⟩ (.int .i64 y)) k h b fv y tv :=
  ⟨v.f.far (by show k + 2 ≠ k + 4; omega) _, v.r.far (by show k + 3 ≠ k + 4; omega) _, v.e.set_ 0 _, v.p.far (by show h + 1 ≠ k + 4; omega) _, v.t.far (by show h + 2 ≠ k + 4; omega) _⟩
/-- An own row of texts is apart from the variables. -/
theorem VarT.row {W : World} {k h b base n : Nat} {fv tv u : Value} {x : Int} {xs : List Value} (v : VarT W k h b fv x tv) (ho : W.ownsRow base 9 1 u n xs) : ∀ g, u.ownBlock = some g → (g ≠ k + 2 ∧ g ≠ k + 3 ∧ g ≠ k + 4 ∧ g ≠ h + 1 ∧ g ≠ h + 2) := by
  intro g hg
  refine ⟨?_, ?_, ?_, ?_, ?_⟩ <;> rintro rfl
  · exact blk_ne_row v.f ho (by decide) hg.symm
  · exact blk_ne_row v.r ho (by decide) hg.symm
  · exact blk_ne_row v.e ho (by decide) hg.symm
  · exact blk_ne_row v.p ho (by decide) hg.symm
  · exact blk_ne_row v.t ho (by decide) hg.symm
/-- The variables are apart from a runner. -/
def AptV (b k h : Nat) (lv rv : Value) : Prop := ∀ i, (i = k + 2 ∨ i = k + 3 ∨ i = k + 4 ∨ i = h + 1 ∨ i = h + 2) → Apt b i lv rv
/-- The texts of the first n configurations. -/
def firstT (M : MachD) (c : ConfD) (f : ConfD → List UInt8) (n : Nat) : List (List UInt8) := (List.range n).map fun i => f (cfgI M c i)
theorem firstT_length (M : MachD) (c : ConfD) (f : ConfD → List UInt8) (n : Nat) : (firstT M c f n).length = n := by simp [firstT]
theorem firstT_svB (M : MachD) (c : ConfD) (f : ConfD → List UInt8) (n : Nat) : svB (firstT M c f (n + 1)) = svB (firstT M c f n) ++ [.string (bsS (f (cfgI M c n)))] := by simp [firstT, svB, List.range_succ]
/-- The pairs of the first n rounds. -/
def roundsT (n : Nat) : List (Int × Bool) := (List.range n).map fun (i : Nat) => ((i : Int), true)
theorem roundsT_succ (n : Nat) : roundsT (n + 1) = roundsT n ++ [((n : Int), true)] := by simp [roundsT, List.range_succ]
theorem roundsT_last {xs pre : List (Int × Bool)} {i : Nat} {s : Bool} (h : xs = roundsT xs.length) (h' : xs = pre ++ [((i : Int), s)]) : xs.length = i + 1 ∧ s = true := by
  have hl : xs.length = pre.length + 1 := by rw [h']; simp
  rw [hl, roundsT_succ] at h
  rw [h] at h'
  have := List.append_inj_right' h' rfl
  simp only [List.cons.injEq, Prod.mk.injEq, and_true] at this
  obtain ⟨h1, h2⟩ := this
  have : (pre.length : Int) = i := h1
  exact ⟨by omega, h2.symm⟩
/-- What holds between two rounds. -/
def IFt (w0 : World) (b : Nat) (M : MachD) (mv : Value) (k h : Nat) (fv : Value) (c : ConfD) (f : ConfD → List UInt8) (pre : List (Int × Bool)) (W : World) : Prop :=
  ∃ d lv rv tv, RunAt w0 W b M d mv lv rv ∧ AptV b k h lv rv ∧ VarT W k h b fv 0 tv ∧ W.ownsRow h 9 1 tv pre.length (svB (firstT M c f pre.length)) ∧ (∀ g, tv.ownBlock = some g → Apt b g lv rv ∧ g ≠ h + 3 ∧ g ≠ h + 4) ∧ pre = roundsT pre.length ∧ h + 5 ≤ W.heap.size
/-- What holds when a round has left the loop. -/
def IxFt (w0 : World) (b k h : Nat) (fv : Value) (cd : Code) (pre : List (Int × Bool)) (W : World) : Prop :=
  cd = .ret ∧ (∃ p x, pre = p ++ [x] ∧ x.2 = false) ∧ (∃ tv, VarT W k h b fv 5 tv) ∧ Ext w0 W
section
variable {w0 : World} {b k h B : Nat} {M : MachD} {c : ConfD} {mv fv : Value} {f : ConfD → List UInt8}
theorem iFt_own (h0 : w0.heap.size ≤ B) : OwnFrom B (IFt w0 b M mv k h fv c f) := by
  rintro s W W' row ⟨d, lv, rv, tv, hR, hA, hV, ho, hT, hp, hz⟩ hg hr
  exact ⟨d, lv, rv, tv, hR.turn hg (fun r e => ⟨Nat.le_trans h0 (hr r e).1, (hr r e).2⟩), hA, hV.kept hg (fun r e => .inl (hr r e).2), own_same ho (fun g hgl => hg.block g (ho.lt g hgl).2 (fun e => own_not_cells ho hgl (hr g e.symm).2)), hT, hp, Nat.le_trans hz hg.size⟩
theorem ixFt_own (h0 : w0.heap.size ≤ B) (cd : Code) : OwnFrom B (IxFt w0 b k h fv cd) := by
  rintro s W W' row ⟨h1, h2, ⟨tv, hV⟩, hE⟩ hg hr
  exact ⟨h1, h2, ⟨tv, hV.kept hg (fun r e => .inl (hr r e).2)⟩, hE.grown hg (fun r e => Nat.le_trans h0 (hr r e).1)⟩
theorem iFt_w (s : List (Int × Bool)) (X Y : World) (hI : IFt w0 b M mv k h fv c f s X) (hw : WrR w0 b M mv X Y) : IFt w0 b M mv k h fv c f s Y := by
  obtain ⟨d, lv, rv, tv, hR, hA, hV, ho, hT, hp, hz⟩ := hI
  obtain ⟨d1, l1, r1, d2, l2, r2, h1, h2, hm⟩ := hw
  obtain ⟨rfl, rfl⟩ := hR.vals h1
  have hsz : ∀ i, (i = k + 2 ∨ i = k + 3 ∨ i = k + 4 ∨ i = h + 1 ∨ i = h + 2) → i < X.heap.size := by
    rintro i (e | e | e | e | e) <;> rw [e]
    · exact hV.f.lt
    · exact hV.r.lt
    · exact hV.e.lt
    · exact hV.p.lt
    · exact hV.t.lt
  exact ⟨d2, l2, r2, tv, h2, fun i hi => ((hA i hi).moved hm (hsz i hi)).1, hV.same (fun i hi => ((hA i hi).moved hm (hsz i hi)).2), own_same ho (fun g hg => ((hT g hg).1.moved hm (ho.lt g hg).2).2), fun g hg => ⟨((hT g hg).1.moved hm (ho.lt g hg).2).1, (hT g hg).2⟩, hp, Nat.le_trans hz hm.size⟩
end
/-- What the texts of a run come to. -/
def TxtOut (w0 : World) (M : MachD) (c : ConfD) (N : Nat) (f : ConfD → List UInt8) (e : Ending) (w' : World) : Prop :=
  ∃ L kk tv, e = .returned (.tuple #[tv, .int .i64 kk]) ∧ w'.ownsRow w0.heap.size 9 1 tv L.length (svB L) ∧ TRun M c N f L kk ∧ Ext w0 w'
/-- A round that keeps the runner. -/
theorem kp_of {w0 W W' : World} {b bq bp : Nat} {m : MachD} {d : ConfD} {mv lv rv : Value} (h : RunAt w0 W b m d mv lv rv) (hK : ∀ d', RunAt w0 W b m d' mv lv rv → RunAt w0 W' b m d' mv lv rv) (hs : W.heap.size ≤ W'.heap.size) (h1 : W'.heap[bq]? = W.heap[bq]?) (h2 : W'.heap[bp]? = W.heap[bp]?) : KpR w0 b bq bp m mv W W' :=
  ⟨hs, fun d' l r hr => by obtain ⟨rfl, rfl⟩ := h.vals hr; exact hK _ hr, h1, h2⟩
end Go.Proofs.YthhjbmlkncdigaaGreatDoor
end
section
set_option linter.unusedSimpArgs false
set_option linter.unusedVariables false
namespace Go.Proofs.YthhjbmlkncdigaaGreatDoor
open Go Go.RowKit Go.Proofs
set_option maxHeartbeats 400000
/-- What a configuration must be for its text. -/
structure CDig (c : ConfD) : Prop where
  q0 : 0 ≤ c.q
  q9 : c.q ≤ 999
  l1 : c.l.length ≤ 200
  l2 : ∀ z ∈ c.l, 0 ≤ z ∧ z ≤ 9
  r1 : c.r.length ≤ 200
  r2 : ∀ z ∈ c.r, 0 ≤ z ∧ z ≤ 9
theorem CDig.of {m : MachD} {c : ConfD} (hm : machOk m = true) (hc : confB m c = true) : CDig c := by
  obtain ⟨⟨q0, q9⟩, ⟨l1, l2⟩, ⟨r1, r2⟩⟩ := conf_digs hm hc
  exact ⟨q0, q9, l1, l2, r1, r2⟩
set_option maxRecDepth 20000 in
set_option maxHeartbeats 4000000 in
theorem configText0_c (lv qv : Value) (c : ConfD) (w : World) (hl : Ints w lv c.l) (hq : Ints w qv c.r) (hc : CDig c) (hfl : Flat lv) (hT : Tab w) :
    Calls Tryz.prog 35 #[.agg #[.int .i64 c.q, lv, qv], .int .i64 0] w fun e w' => e = .returned (.string (bsS (confT c))) ∧ Ext w w' := by
  obtain ⟨Al, cl, rfl, _, _⟩ := hl.form
  obtain ⟨Aq, cq, rfl, _, _⟩ := hq.form
  obtain ⟨q0, q9, l1, l2, r1, r2⟩ := hc
  obtain ⟨W, hW⟩ : ∃ W, w.alloc (.cells #[.int .i64 c.q, .slice Al c.l.length cl, .slice Aq c.r.length cq] 37) = W := ⟨_, rfl⟩
  have hX : Ext w W := by rw [← hW]; exact Ext.alloc _ _
  have bC : Blk W w.heap.size 37 #[.int .i64 c.q, .slice Al c.l.length cl, .slice Aq c.r.length cq] := by rw [← hW]; exact Blk.new _ _ _ _ rfl
  have b0 := bC.cell 0
  have b1 := bC.cell 1
  have b2 := bC.cell 2
  simp only [List.getElem?_toArray, List.getElem?_cons_zero, List.getElem?_cons_succ] at b0 b1 b2
  have hXd := hX.trans (Ext.drew W)
  have b0 := (Ext.drew W).cell b0
  have b1 := (Ext.drew W).cell b1
  have b2 := (Ext.drew W).cell b2
  have hrv := reversed_c _ c.l W.drew (hl.ext hXd) hfl (by omega)
  have hsL : (bsS (digB c.l.reverse)).size ≤ 200 := by rw [bs_size]; simp [digB]; omega
  have hsR : (bsS (digB c.r)).size ≤ 200 := by rw [bs_size]; simp [digB]; omega
  have hsQ := itoaS_size (n := c.q) q0 (by omega)
  have hA := confT_app c
  have hdL : ∀ (v : Value) (w : World), Ints w v c.l.reverse → Calls Tryz.prog 68 #[v] w fun e w' => e = .returned (.string (bsS (digB c.l.reverse))) ∧ Ext w w' := fun v w h => digitsText_c v _ w h (fun z hz => l2 z (List.mem_reverse.1 hz)) (by simp; omega)
  have hdR : ∀ (v : Value) (w : World), Ints w v c.r → Calls Tryz.prog 68 #[v] w fun e w' => e = .returned (.string (bsS (digB c.r))) ∧ Ext w w' := fun v w h => digitsText_c v _ w h r2 (by omega)
  generalize bsS (digB c.l.reverse) = sL at *
  generalize bsS (digB c.r) = sR at *
  have HA := Lib.hid hA
  clear hA
  have n1 : ¬ 9223372036854775807 < sL.size + 1 := by omega
  have n2 : ¬ 9223372036854775807 < sL.size + 1 + (itoaS c.q).size := by omega
  have n3 : ¬ 9223372036854775807 < sL.size + 1 + (itoaS c.q).size + 1 := by omega
  have n4 : ¬ 9223372036854775807 < sL.size + 1 + (itoaS c.q).size + 1 + sR.size := by omega
  go_enter Tryz.func35, Tryz.ntmps35
  go_wp2_with fail
  try rw [hW]
  clear hW
  refine wp_region_ordT 14 (readsT [0, 1, 5, 6, 10, 11] (.stir 2 (.stir 3 (readsT [4] (.stir 7 (readsT [8, 9] (.stir 12 (readsT [13] .done)))))))) (by kernel_rfl) (by kernel_rfl) (fun _ _ _ _ _ h => h) ?_
  simp only [readsT]
  iterate 6 (refine wpOrdT_read (v := ?_) (by rfl) (Or.inl ⟨by rfl, fun x hx => ?_⟩) ?_; rotate_left; (· have a1 := hx.cell b0; have a2 := hx.cell b1; have a3 := hx.cell b2; go_simp; try with_reducible rfl); try simp only [Act.put, List.setIfInBounds_toArray, List.set_cons_zero, List.set_cons_succ])
  refine wpOrdT_keep (by rfl) (fun K hK => ?_)
  go_simp
  refine hrv.mono ?_
  rintro e w2 ⟨u, rfl, ho, hx2⟩
  obtain ⟨Au, cu, rfl, _, _⟩ := ho.ints.form
  rw [List.length_reverse] at *
  refine hK _ _ hx2 ?_
  clear hK K
  refine wpOrdT_keep (by rfl) (fun K hK => ?_)
  go_simp
  refine (hdL _ w2 (by simpa using ho.ints)).mono ?_
  rintro e w3 ⟨rfl, hx3⟩
  refine hK _ _ (hx2.trans hx3) ?_
  clear hK K
  refine wpOrdT_read (v := ?_) (by rfl) (Or.inl ⟨by rfl, fun x hx => ?_⟩) ?_
  rotate_left
  · go_simp; try with_reducible rfl
  try simp only [Act.put, List.setIfInBounds_toArray, List.set_cons_zero, List.set_cons_succ]
  refine wpOrdT_keep (by rfl) (fun K hK => ?_)
  go_simp
  refine (Decimal_c c.q w3 (by omega) (by omega) ((hT.ext hXd).ext (hx2.trans hx3))).mono ?_
  rintro e w4 ⟨rfl, hx4⟩
  refine hK _ _ ((hx2.trans hx3).trans hx4) ?_
  clear hK K
  refine wpOrdT_read (v := ?_) (by rfl) (Or.inl ⟨by rfl, fun x hx => ?_⟩) ?_
  rotate_left
  · go_simp; try with_reducible rfl
  try simp only [Act.put, List.setIfInBounds_toArray, List.set_cons_zero, List.set_cons_succ]
  refine wpOrdT_read (v := ?_) (by rfl) (Or.inl ⟨by rfl, fun x hx => ?_⟩) ?_
  rotate_left
  · go_simp; try with_reducible rfl
  try simp only [Act.put, List.setIfInBounds_toArray, List.set_cons_zero, List.set_cons_succ]
  refine wpOrdT_keep (by rfl) (fun K hK => ?_)
  go_simp
  refine (hdR _ w4 (hq.ext (hXd.trans ((hx2.trans hx3).trans hx4)))).mono ?_
  rintro e w5 ⟨rfl, hx5⟩
  refine hK _ _ (((hx2.trans hx3).trans hx4).trans hx5) ?_
  clear hK K
  refine wpOrdT_read (v := ?_) (by rfl) (Or.inl ⟨by rfl, fun x hx => ?_⟩) ?_
  rotate_left
  · go_simp; try with_reducible rfl
  try simp only [Act.put, List.setIfInBounds_toArray, List.set_cons_zero, List.set_cons_succ]
  refine wpOrdT_done ?_
  try simp only [List.drop_succ_cons, List.drop_zero]
  go_wp2
  go_ret
  exact ⟨by rw [← HA.out]; rfl, hXd.trans (((hx2.trans hx3).trans hx4).trans hx5)⟩
theorem configText1_c (lv qv : Value) (c : ConfD) (k : Int) (w : World) (hl : Ints w lv c.l) (hq : Ints w qv c.r) (hk : k ≠ 0) :
    Calls Tryz.prog 35 #[.agg #[.int .i64 c.q, lv, qv], .int .i64 k] w fun e w' => e = .returned (.string (bsS [])) ∧ Ext w w' := by
  obtain ⟨Al, cl, rfl, _, _⟩ := hl.form
  obtain ⟨Aq, cq, rfl, _, _⟩ := hq.form
  have hb : (k != 0) = true := by simp [hk]
  clear hk
  go_enter Tryz.func35, Tryz.ntmps35
  go_wp2
  go_ret
  exact ⟨rfl, Ext.alloc _ _⟩
end Go.Proofs.YthhjbmlkncdigaaGreatDoor
end
