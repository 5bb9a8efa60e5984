/- Contract of the program's run of a machine by its runner. The machine is valid and the configuration is one of its.
Words for the texts of a run by the program's runner: what holds between two rounds, and what is kept.
A region that draws its order, within a round of a range over a function: walked along a tree, as elsewhere. No condition. -/
import Derived.Test.YtgeckhjkahnonaaGreatDoorO40
import Derived.Deep.RegionHeld3
import Derived.Test.YtgeckhjkahnonaaGreatDoorO27
import Derived.Test.YtgeckhjkahnonaaGreatDoorO07
import Derived.Test.YtgeckhjkahnonaaGreatDoorO29
import Derived.Test.YtgeckhjkahnonaaGreatDoorO05
import Derived.OrdersIn
import Derived.RangeFuncCalls
import Derived.AtR
section
set_option linter.unusedSimpArgs false
set_option linter.unusedVariables false
namespace Go.Proofs.YtgeckhjkahnonaaGreatDoor
open Go Go.RowKit Go.Proofs Go.Shelf
attribute [local go_sem] Oper.semAt_some
set_option maxHeartbeats 400000
section
variable {w0 : World} {b k : Nat} {m : MachD} {c : ConfD} {mv : Value} {N B : Nat}
theorem FourR.turn {W W' : World} {a e n : Int} {s : Bool} (h : FourR W k a s e n) {row : Option Nat} (hg : W.grownBy W' row) (hr : ∀ r, row = some r → ∃ o : Obj, W.heap[r]? = some o ∧ o.isCells = false) : FourR W' k a s e n := by
  refine ⟨h.b0.kept hg (fun e => ?_), h.b1.kept hg (fun e => ?_), h.b2.kept hg (fun e => ?_), h.b3.kept hg (fun e => ?_)⟩
  · exact not_cells (o := .cells #[] 0) h.b0 (hr _ e.symm)
  · exact not_cells (o := .cells #[] 0) h.b1 (hr _ e.symm)
  · exact not_cells (o := .cells #[] 0) h.b2 (hr _ e.symm)
  · exact not_cells (o := .cells #[] 0) h.b3 (hr _ e.symm)
theorem stR_own (h0 : w0.heap.size ≤ B) (pre : List (Int × Bool)) (x : Int × Bool) : OwnFrom B (fun (_ : Unit) W => StR w0 b m c mv N pre x W) := by
  rintro s W W' row ⟨i, lv, rv, hR, h2⟩ hg hr
  exact ⟨i, lv, rv, hR.turn hg (fun r e => ⟨Nat.le_trans h0 (hr r e).1, (hr r e).2⟩), h2⟩
theorem sR_own (h0 : w0.heap.size ≤ B) : OwnFrom B (SR w0 b m c mv N) := by
  rintro s W W' row ⟨i, lv, rv, p, hR, h2⟩ hg hr
  exact ⟨i, lv, rv, p, hR.turn hg (fun r e => ⟨Nat.le_trans h0 (hr r e).1, (hr r e).2⟩), h2⟩
theorem spR_own (h0 : w0.heap.size ≤ B) : OwnFrom B (SpR w0 b m c mv N) := by
  rintro s W W' row ⟨i, lv, rv, p, hR, h2⟩ hg hr
  exact ⟨i, lv, rv, p, hR.turn hg (fun r e => ⟨Nat.le_trans h0 (hr r e).1, (hr r e).2⟩), h2⟩
end
theorem kp_set {w0 W : World} {b bq bp : Nat} {m : MachD} {d : ConfD} {mv lv rv : Value} (h : RunAt w0 W b m d mv lv rv) {p : Addr} (ha : Apt b p.block lv rv) (h0 : w0.heap.size ≤ p.block) (hq : bq ≠ p.block) (hp : bp ≠ p.block) (u : Value) :
    KpR w0 b bq bp m mv W (W.setCell p u) ∧ RunAt w0 (W.setCell p u) b m d mv lv rv := by
  refine ⟨⟨(grownBy_setCell W p u).size, fun d' l' r' h' => ?_, Below.heap_setCell W p u bq hq, Below.heap_setCell W p u bp hp⟩, h.apart ha.nb ha.nl ha.nr h0 u⟩
  obtain ⟨rfl, rfl⟩ := h.vals h'
  exact h'.apart ha.nb ha.nl ha.nr h0 u
end Go.Proofs.YtgeckhjkahnonaaGreatDoor
end
section
set_option linter.unusedSimpArgs false
set_option linter.unusedVariables false
namespace Go.Proofs.YtgeckhjkahnonaaGreatDoor
open Go Go.RowKit Go.Proofs Go.Shelf
set_option maxHeartbeats 400000
theorem RunAt.lower {w0 w1 w : World} {b : Nat} {m : MachD} {d : ConfD} {mv lv rv : Value} (h : RunAt w1 w b m d mv lv rv) (he : Ext w0 w1) (hr : Rules w0 mv m.rules) : RunAt w0 w b m d mv lv rv :=
  ⟨h.blk, hr, he.trans h.ext0, ownsRow_base h.l he.size, ownsRow_base h.r he.size, h.ap, Nat.le_trans he.size h.low⟩
/-- One row apart from a runner is written on. -/
theorem RunAt.row {w0 A B : World} {b : Nat} {m : MachD} {d : ConfD} {mv lv rv : Value} (h : RunAt w0 A b m d mv lv rv) {row : Option Nat} (hg : A.grownBy B row) (hr : ∀ r, row = some r → w0.heap.size ≤ r ∧ Apt b r lv rv) : RunAt w0 B b m d mv lv rv := by
  refine ⟨h.blk.kept hg (fun e => (hr b e.symm).2.nb rfl), h.rules0, h.ext0.grown hg (fun k hk => (hr k hk).1), ?_, ?_, h.ap, h.low⟩
  · exact own_same h.l (fun g hgl => hg.block g (h.l.lt g hgl).2 (fun e => (hr g e.symm).2.nl hgl))
  · exact own_same h.r (fun g hgl => hg.block g (h.r.lt g hgl).2 (fun e => (hr g e.symm).2.nr hgl))
/-- The variables of the run: the function, both results, the runner, the texts. -/
structure VarT (W : World) (k h b : Nat) (fv : Value) (x : Int) (tv : Value) : Prop where
  f : Blk W (k + 2) 76 #[fv]
  r : Blk W (k + 3) 30 #[.slice none 0 0]
  e : Blk W (k + 4) 2 #[.int .i64 x]
  p : Blk W (h + 1) 115 #[.pointer (some ⟨b, 0, none⟩)]
  t : Blk W (h + 2) 30 #[tv]
theorem VarT.same {W W' : World} {k h b : Nat} {fv tv : Value} {x : Int} (v : VarT W k h b fv x tv) (hs : ∀ i, (i = k + 2 ∨ i = k + 3 ∨ i = k + 4 ∨ i = h + 1 ∨ i = h + 2) → W'.heap[i]? = W.heap[i]?) : VarT W' k h b fv x tv :=
  ⟨(hs _ (.inl rfl)).trans v.f, (hs _ (.inr (.inl rfl))).trans v.r, (hs _ (.inr (.inr (.inl rfl)))).trans v.e, (hs _ (.inr (.inr (.inr (.inl rfl))))).trans v.p, (hs _ (.inr (.inr (.inr (.inr rfl))))).trans v.t⟩
theorem VarT.kept {W W' : World} {k h b : Nat} {fv tv : Value} {x : Int} (v : VarT W k h b fv x tv) {row : Option Nat} (hg : W.grownBy W' row) (hr : ∀ r, row = some r → (∃ o : Obj, W.heap[r]? = some o ∧ o.isCells = false) ∨ (r ≠ k + 2 ∧ r ≠ k + 3 ∧ r ≠ k + 4 ∧ r ≠ h + 1 ∧ r ≠ h + 2)) : VarT W' k h b fv x tv := by
  have key : ∀ {i : Nat} {t : TypeId} {cs : Array Value}, Blk W i t cs → (i = k + 2 ∨ i = k + 3 ∨ i = k + 4 ∨ i = h + 1 ∨ i = h + 2) → Blk W' i t cs := by
    intro i t cs hb hi
    refine hb.kept hg (fun e => ?_)
    rcases hr i e.symm with h1 | ⟨h1, h2, h3, h4, h5⟩
    · exact not_cells (o := .cells #[] 0) hb h1
    · rcases hi with h' | h' | h' | h' | h'
      · exact h1 h'
      · exact h2 h'
      · exact h3 h'
      · exact h4 h'
      · exact h5 h'
  exact ⟨key v.f (.inl rfl), key v.r (.inr (.inl rfl)), key v.e (.inr (.inr (.inl rfl))), key v.p (.inr (.inr (.inr (.inl rfl)))), key v.t (.inr (.inr (.inr (.inr rfl))))⟩
theorem VarT.ext {W W' : World} {k h b : Nat} {fv tv : Value} {x : Int} (v : VarT W k h b fv x tv) (he : Ext W W') : VarT W' k h b fv x tv := ⟨v.f.ext he, v.r.ext he, v.e.ext he, v.p.ext he, v.t.ext he⟩
theorem VarT.setT {W : World} {k h b : Nat} {fv tv : Value} {x : Int} (v : VarT W k h b fv x tv) (hk : k + 5 ≤ h) (u : Value) : VarT (W.setCell ⟨h + 2, 0, none⟩ u) k h b fv x u :=
  ⟨v.f.far (by show k + 2 ≠ h + 2; omega) u, v.r.far (by show k + 3 ≠ h + 2; omega) u, v.e.far (by show k + 4 ≠ h + 2; omega) u, v.p.far (by show h + 1 ≠ h + 2; omega) u, v.t.set_ 0 u⟩
theorem VarT.setR {W : World} {k h b : Nat} {fv tv : Value} {x : Int} (v : VarT W k h b fv x tv) (hk : k + 5 ≤ h) : VarT (W.setCell ⟨k + 3, 0, none⟩ (.slice none 0 0)) k h b fv x tv :=
  ⟨v.f.far (by show k + 2 ≠ k + 3; omega) _, v.r.set_ 0 _, v.e.far (by show k + 4 ≠ k + 3; omega) _, v.p.far (by show h + 1 ≠ k + 3; omega) _, v.t.far (by show h + 2 ≠ k + 3; omega) _⟩
theorem VarT.setE {W : World} {k h b : Nat} {fv tv : Value} {x : Int} (v : VarT W k h b fv x tv) (hk : k + 5 ≤ h) (y : Int) : VarT (W.setCell ⟨k + 4, 0, none⟩ (.int .i64 y)) k h b fv y tv :=
  ⟨v.f.far (by show k + 2 ≠ k + 4; omega) _, v.r.far (by show k + 3 ≠ k + 4; omega) _, v.e.set_ 0 _, v.p.far (by show h + 1 ≠ k + 4; omega) _, v.t.far (by show h + 2 ≠ k + 4; omega) _⟩
/-- An own row of texts is apart from the variables. -/
theorem VarT.row {W : World} {k h b base n : Nat} {fv tv u : Value} {x : Int} {xs : List Value} (v : VarT W k h b fv x tv) (ho : W.ownsRow base 9 1 u n xs) : ∀ g, u.ownBlock = some g → (g ≠ k + 2 ∧ g ≠ k + 3 ∧ g ≠ k + 4 ∧ g ≠ h + 1 ∧ g ≠ h + 2) := by
  intro g hg
  refine ⟨?_, ?_, ?_, ?_, ?_⟩ <;> rintro rfl
  · exact blk_ne_row v.f ho (by decide) hg.symm
  · exact blk_ne_row v.r ho (by decide) hg.symm
  · exact blk_ne_row v.e ho (by decide) hg.symm
  · exact blk_ne_row v.p ho (by decide) hg.symm
  · exact blk_ne_row v.t ho (by decide) hg.symm
/-- The variables are apart from a runner. -/
def AptV (b k h : Nat) (lv rv : Value) : Prop := ∀ i, (i = k + 2 ∨ i = k + 3 ∨ i = k + 4 ∨ i = h + 1 ∨ i = h + 2) → Apt b i lv rv
/-- The texts of the first n configurations. -/
def firstT (M : MachD) (c : ConfD) (f : ConfD → List UInt8) (n : Nat) : List (List UInt8) := (List.range n).map fun i => f (cfgI M c i)
theorem firstT_length (M : MachD) (c : ConfD) (f : ConfD → List UInt8) (n : Nat) : (firstT M c f n).length = n := by simp [firstT]
theorem firstT_svB (M : MachD) (c : ConfD) (f : ConfD → List UInt8) (n : Nat) : svB (firstT M c f (n + 1)) = svB (firstT M c f n) ++ [.string (bsS (f (cfgI M c n)))] := by simp [firstT, svB, List.range_succ]
/-- The pairs of the first n rounds. -/
def roundsT (n : Nat) : List (Int × Bool) := (List.range n).map fun (i : Nat) => ((i : Int), true)
theorem roundsT_succ (n : Nat) : roundsT (n + 1) = roundsT n ++ [((n : Int), true)] := by simp [roundsT, List.range_succ]
theorem roundsT_last {xs pre : List (Int × Bool)} {i : Nat} {s : Bool} (h : xs = roundsT xs.length) (h' : xs = pre ++ [((i : Int), s)]) : xs.length = i + 1 ∧ s = true := by
  have hl : xs.length = pre.length + 1 := by rw [h']; simp
  rw [hl, roundsT_succ] at h
  rw [h] at h'
  have := List.append_inj_right' h' rfl
  simp only [List.cons.injEq, Prod.mk.injEq, and_true] at this
  obtain ⟨h1, h2⟩ := this
  have : (pre.length : Int) = i := h1
  exact ⟨by omega, h2.symm⟩
/-- What holds between two rounds. -/
def IFt (w0 : World) (b : Nat) (M : MachD) (mv : Value) (k h : Nat) (fv : Value) (c : ConfD) (f : ConfD → List UInt8) (pre : List (Int × Bool)) (W : World) : Prop :=
  ∃ d lv rv tv, RunAt w0 W b M d mv lv rv ∧ AptV b k h lv rv ∧ VarT W k h b fv 0 tv ∧ W.ownsRow h 9 1 tv pre.length (svB (firstT M c f pre.length)) ∧ (∀ g, tv.ownBlock = some g → Apt b g lv rv ∧ g ≠ h + 3 ∧ g ≠ h + 4) ∧ pre = roundsT pre.length ∧ h + 5 ≤ W.heap.size
/-- What holds when a round has left the loop. -/
def IxFt (w0 : World) (b k h : Nat) (fv : Value) (cd : Code) (pre : List (Int × Bool)) (W : World) : Prop :=
  cd = .ret ∧ (∃ p x, pre = p ++ [x] ∧ x.2 = false) ∧ (∃ tv, VarT W k h b fv 5 tv) ∧ Ext w0 W
section
variable {w0 : World} {b k h B : Nat} {M : MachD} {c : ConfD} {mv fv : Value} {f : ConfD → List UInt8}
theorem iFt_own (h0 : w0.heap.size ≤ B) : OwnFrom B (IFt w0 b M mv k h fv c f) := by
  rintro s W W' row ⟨d, lv, rv, tv, hR, hA, hV, ho, hT, hp, hz⟩ hg hr
  exact ⟨d, lv, rv, tv, hR.turn hg (fun r e => ⟨Nat.le_trans h0 (hr r e).1, (hr r e).2⟩), hA, hV.kept hg (fun r e => .inl (hr r e).2), own_same ho (fun g hgl => hg.block g (ho.lt g hgl).2 (fun e => own_not_cells ho hgl (hr g e.symm).2)), hT, hp, Nat.le_trans hz hg.size⟩
theorem ixFt_own (h0 : w0.heap.size ≤ B) (cd : Code) : OwnFrom B (IxFt w0 b k h fv cd) := by
  rintro s W W' row ⟨h1, h2, ⟨tv, hV⟩, hE⟩ hg hr
  exact ⟨h1, h2, ⟨tv, hV.kept hg (fun r e => .inl (hr r e).2)⟩, hE.grown hg (fun r e => Nat.le_trans h0 (hr r e).1)⟩
theorem iFt_w (s : List (Int × Bool)) (X Y : World) (hI : IFt w0 b M mv k h fv c f s X) (hw : WrR w0 b M mv X Y) : IFt w0 b M mv k h fv c f s Y := by
  obtain ⟨d, lv, rv, tv, hR, hA, hV, ho, hT, hp, hz⟩ := hI
  obtain ⟨d1, l1, r1, d2, l2, r2, h1, h2, hm⟩ := hw
  obtain ⟨rfl, rfl⟩ := hR.vals h1
  have hsz : ∀ i, (i = k + 2 ∨ i = k + 3 ∨ i = k + 4 ∨ i = h + 1 ∨ i = h + 2) → i < X.heap.size := by
    rintro i (e | e | e | e | e) <;> rw [e]
    · exact hV.f.lt
    · exact hV.r.lt
    · exact hV.e.lt
    · exact hV.p.lt
    · exact hV.t.lt
  exact ⟨d2, l2, r2, tv, h2, fun i hi => ((hA i hi).moved hm (hsz i hi)).1, hV.same (fun i hi => ((hA i hi).moved hm (hsz i hi)).2), own_same ho (fun g hg => ((hT g hg).1.moved hm (ho.lt g hg).2).2), fun g hg => ⟨((hT g hg).1.moved hm (ho.lt g hg).2).1, (hT g hg).2⟩, hp, Nat.le_trans hz hm.size⟩
end
/-- What the texts of a run come to. -/
def TxtOut (w0 : World) (M : MachD) (c : ConfD) (N : Nat) (f : ConfD → List UInt8) (e : Ending) (w' : World) : Prop :=
  ∃ L kk tv, e = .returned (.tuple #[tv, .int .i64 kk]) ∧ w'.ownsRow w0.heap.size 9 1 tv L.length (svB L) ∧ TRun M c N f L kk ∧ Ext w0 w'
/-- A round that keeps the runner. -/
theorem kp_of {w0 W W' : World} {b bq bp : Nat} {m : MachD} {d : ConfD} {mv lv rv : Value} (h : RunAt w0 W b m d mv lv rv) (hK : ∀ d', RunAt w0 W b m d' mv lv rv → RunAt w0 W' b m d' mv lv rv) (hs : W.heap.size ≤ W'.heap.size) (h1 : W'.heap[bq]? = W.heap[bq]?) (h2 : W'.heap[bp]? = W.heap[bp]?) : KpR w0 b bq bp m mv W W' :=
  ⟨hs, fun d' l r hr => by obtain ⟨rfl, rfl⟩ := h.vals hr; exact hK _ hr, h1, h2⟩
end Go.Proofs.YtgeckhjkahnonaaGreatDoor
end
section
set_option linter.unusedSimpArgs false
set_option linter.unusedVariables false
namespace Go.Proofs.YtgeckhjkahnonaaGreatDoor
open Go Go.RowKit
theorem opIn_round {l n : Nat} {P : Program} {o : Oper} {a : Act} {w : World} {K : Act → World → Prop} {Q : Exit → Act → World → Prop} (ho : ∀ c, o.op ≠ .defer c) (h : o.wp P a w K Q) : o.wpIn (Fence.wide.inRound l) n P a w K Q := by
  refine ⟨fun _ _ => trivial, ?_⟩
  rw [Oper.semAt_eq _ _ _ ho]
  unfold Oper.wp at h
  have hd : ¬ ((Fence.wide.inRound l).depth.isSome = true) := by simp [Fence.wide]
  generalize (execOp a.eval o).run P w = r at h
  cases r with
  | ok x w' =>
    cases x with
    | value v => exact h
    | skip => exact h
    | defer d => exact h
    | enter f args => exact ⟨fun e => absurd e hd, CallsIn.inRound l (callsIn_wide.2 h)⟩
    | row row args => exact ⟨fun e => absurd e hd, fun c cs _ => let ⟨v, w', r, s⟩ := h c cs; ⟨v, w', r, stepsIn_wide.2 s⟩⟩
    | _ => exact h.elim
  | halt x w' => cases x <;> first | exact h | exact h.elim
def noDefer (o : Oper) : Bool := match o.op with | .defer _ => false | _ => true
theorem noDefer_spec {o : Oper} (h : noDefer o = true) : ∀ c, o.op ≠ .defer c := by
  intro c e
  unfold noDefer at h
  rw [e] at h
  cases h
theorem anyIn_round {l n : Nat} {P : Program} {md : Region.Mode} {ops : Array Oper} {Q : Exit → Act → World → Prop} (hq : ¬ LetsOut Q) (hd : ∀ (i : Nat) o, ops[i]? = some o → noDefer o = true) :
    ∀ (fuel : Nat) (listed : Array Bool) (a : Act) (w : World), wpAny P md ops Q fuel listed a w → wpAnyIn (Fence.wide.inRound l) n P md ops Q fuel listed a w := by
  intro fuel
  induction fuel with
  | zero => intro listed a w h; exact h
  | succ fuel ih =>
    intro listed a w h
    refine ⟨h.1, fun i hi => ?_⟩
    have h2 := h.2 i hi
    unfold wpOp at h2
    unfold wpOpIn
    cases ho : ops[i]? with
    | none => rw [ho] at h2; exact ih _ _ _ h2
    | some o =>
      rw [ho] at h2
      dsimp only at h2 ⊢
      split
      · rename_i hw
        rw [if_pos hw] at h2
        rcases h2 with h2 | ⟨_, h2⟩
        · exact opIn_round (noDefer_spec (hd i o ho)) (Oper.wp_mono (fun a w => ih _ a w) h2)
        · exact absurd h2 hq
      · rename_i hw
        rw [if_neg hw] at h2
        exact ⟨fun _ _ => trivial, ih _ _ _ h2⟩
variable {P : Program} {Q : Exit → Act → World → Prop}
/-- As wp_region_ordT, within a round. -/
theorem wpIn_region_ordT {m k : Nat} {id : Nat} {a : Act} {w : World} {l : List Oper} (n : Nat) (tr : OrdT) (hm : P.follows .mixedOrders = true) (hB : ordTreeB .any l.toArray n tr = true) (hD : l.all noDefer = true) (hq : ¬ LetsOut Q)
    (hQ : ∀ c t t' d w, Q (.panic c) ⟨t, d⟩ w → Q (.panic c) ⟨t', d⟩ w)
    (h : wpOrdT P l.toArray Q l (fun a' w' => wpList P l.toArray Q (l.drop n) a' w') tr (Ext w.drew) a w.drew) : (Code.region id l.toArray true).wpIn (Fence.wide.inRound m) k P Q a w := by
  simp only [ordTreeB, Bool.and_eq_true, decide_eq_true_eq] at hB
  obtain ⟨⟨⟨⟨hsel, hn⟩, hs⟩, hc⟩, hord⟩ := hB
  have hn' : n < l.length := by simpa using hn
  have hdl : (l.drop n).length = l.toArray.size - n := by simp
  have inv0 : HeadInv .any l.toArray n (Array.replicate l.toArray.size false) :=
    ⟨by simp, fun j oj _ hl => (by rw [getD_replicate_false] at hl; cases hl), fun t _ ht => _root_.Go.getD_in (by simpa using ht) (getD_replicate_false _ _)⟩
  have H := wpAnyN_ordT (md := .any) (g := l.toArray.size - n) (Lq := fun a' w' => wpList P l.toArray Q (l.drop n) a' w') rfl hsel hQ hs hc hn n tr (Ext w.drew) _ a w.drew inv0 hord (Ext.refl _) h
  refine wpIn_region_any hm (anyIn_round hq (fun i o ho => ?_) _ _ _ _ ?_)
  · have : o ∈ l := by simpa using Array.mem_of_getElem? ho
    exact List.all_eq_true.1 hD o this
  · have := wpAny_of_N (Q := Q) (g := l.toArray.size - n) (fun listed a' w' hL => by
      have := wpAny_of_seq (md := .any) (Q' := Q) (l.drop n) n listed a' w' (fun j => by simp [List.getElem?_drop]) (by rw [hdl]; exact hL.1) hL.2
      rwa [hdl] at this) _ _ _ _ _ H
    rw [show n + (l.toArray.size - n) = l.toArray.size by simp; omega] at this
    exact this
end Go.Proofs.YtgeckhjkahnonaaGreatDoor
end
