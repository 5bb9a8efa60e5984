/- Contract of the program's run of a machine by its runner. The machine is valid and the configuration is one of its.
Contract of the program's run of a machine by its runner. The machine is valid and the configuration is one of its.
Words for the texts of a run by the program's runner: what holds between two rounds, and what is kept. -/
import Derived.Test.YtfghojbbofobeaaGreatDoorW27
import Derived.Test.YtfghojbbofobeaaGreatDoorW09
import Derived.Deep.RegionHeld3
import Derived.Test.YtfghojbbofobeaaGreatDoorW33
import Derived.Test.YtfghojbbofobeaaGreatDoorW29
section
set_option linter.unusedSimpArgs false
set_option linter.unusedVariables false
namespace Go.Proofs.YtfghojbbofobeaaGreatDoor
open Go Go.RowKit Go.Proofs Go.Shelf
attribute [local go_sem] Oper.semAt_some
set_option maxHeartbeats 400000
section
variable {w0 w w' A B : World} {b bq bp : Nat} {m : MachD} {c d d' : ConfD} {mv lv rv lv' rv' : Value} {N : Nat}
theorem RunAt.vals (h : RunAt w0 w b m d mv lv rv) (h' : RunAt w0 w b m d' mv lv' rv') : lv = lv' ∧ rv = rv' := by
  have e := (h.blk.symm.trans h'.blk)
  simp at e
  exact ⟨e.2.1, e.2.2⟩
theorem not_cells {k : Nat} {o : Obj} {t : TypeId} {cs : Array Value} (h : Blk A k t cs) (ho : ∃ o, A.heap[k]? = some o ∧ o.isCells = false) : False := by
  obtain ⟨o, h1, h2⟩ := ho
  rw [h] at h1
  cases h1
  cases h2
theorem own_not_cells {base k : Nat} {e : TypeId} {size n : Nat} {v : Value} {xs : List Value} (h : A.ownsRow base e size v n xs) (hv : v.ownBlock = some k) (ho : ∃ o, A.heap[k]? = some o ∧ o.isCells = false) : False := by
  rcases h.2 with ⟨rfl, _⟩ | ⟨g, cap, cur, rfl, _, hg, _⟩
  · simp [Value.ownBlock] at hv
  · simp [Value.ownBlock] at hv
    subst hv
    obtain ⟨o, h1, h2⟩ := ho
    rw [hg] at h1
    cases h1
    cases h2
/-- What no runner has is turned. -/
theorem RunAt.turn (h : RunAt w0 A b m d mv lv rv) {row : Option Nat} (hg : A.grownBy B row) (hr : ∀ r, row = some r → w0.heap.size ≤ r ∧ ∃ o : Obj, A.heap[r]? = some o ∧ o.isCells = false) : RunAt w0 B b m d mv lv rv := by
  refine ⟨h.blk.kept hg (fun e => not_cells (o := .cells #[] 0) h.blk (hr b e.symm).2), h.rules0, h.ext0.grown hg (fun k hk => (hr k hk).1), ?_, ?_, h.ap, h.low⟩
  · exact own_same h.l (fun g hgl => hg.block g (h.l.lt g hgl).2 (fun e => own_not_cells h.l hgl (hr g e.symm).2))
  · exact own_same h.r (fun g hgl => hg.block g (h.r.lt g hgl).2 (fun e => own_not_cells h.r hgl (hr g e.symm).2))
theorem RunAt.apart (h : RunAt w0 A b m d mv lv rv) {p : Addr} (hb : p.block ≠ b) (hl : lv.ownBlock ≠ some p.block) (hr : rv.ownBlock ≠ some p.block) (hp : w0.heap.size ≤ p.block) (u : Value) : RunAt w0 (A.setCell p u) b m d mv lv rv :=
  ⟨h.blk.far (Ne.symm hb) u, h.rules0, h.ext0.setCell hp u, ownsRow_far h.l (fun k hk e => hl (by rw [← e]; exact hk)) u, ownsRow_far h.r (fun k hk e => hr (by rw [← e]; exact hk)) u, h.ap, h.low⟩
theorem KpR.trans {C : World} (h : KpR w0 b bq bp m mv A B) (k : KpR w0 b bq bp m mv B C) : KpR w0 b bq bp m mv A C :=
  ⟨Nat.le_trans h.1 k.1, fun d lv rv hr => k.2.1 d lv rv (h.2.1 d lv rv hr), k.2.2.1.trans h.2.2.1, k.2.2.2.trans h.2.2.2⟩
theorem KpR.turn (W : World) (l : Nat) (o o' : Obj) (h0 : w0.heap.size ≤ l) (hq : bq < l) (hp : bp < l) (h : W.heap[l]? = some o) (ho : o.isCells = false) : KpR w0 b bq bp m mv W (W.putObj l o') := by
  have hg := grownBy_putObj' W l o'
  have hl := (Array.getElem?_eq_some_iff.1 h).1
  exact ⟨hg.size, fun d lv rv hr => hr.turn hg (fun r e => by cases e; exact ⟨h0, o, h, ho⟩), hg.block bq (by omega) (fun e => by injection e with e; omega), hg.block bp (by omega) (fun e => by injection e with e; omega)⟩
theorem WrR.keeps (h : WrR w0 b m mv A B) : KeepsOthers A B := by
  obtain ⟨d, lv, rv, d', lv', rv', h1, h2, hm⟩ := h
  refine ⟨hm.size, fun k o hk ho => ?_⟩
  have hlt := (Array.getElem?_eq_some_iff.1 hk).1
  refine (hm.same k hlt (fun e => ?_) (fun e => own_not_cells h1.l e ⟨o, hk, ho⟩) (fun e => own_not_cells h1.r e ⟨o, hk, ho⟩)).trans hk
  subst e
  exact not_cells (o := o) h1.blk ⟨o, hk, ho⟩
end
/-- What lies apart from a runner. -/
structure Apt (b k : Nat) (lv rv : Value) : Prop where
  nb : k ≠ b
  nl : lv.ownBlock ≠ some k
  nr : rv.ownBlock ≠ some k
theorem Apt.moved {b k : Nat} {A B : World} {lv rv lv' rv' : Value} (h : Apt b k lv rv) (hm : Moved b A B lv rv lv' rv') (hk : k < A.heap.size) : Apt b k lv' rv' ∧ B.heap[k]? = A.heap[k]? := by
  refine ⟨⟨h.nb, fun e => ?_, fun e => ?_⟩, hm.same k hk h.nb h.nl h.nr⟩
  · rcases hm.newl _ e with e | e | e
    · exact h.nl e
    · exact h.nr e
    · omega
  · rcases hm.newr _ e with e | e | e
    · exact h.nl e
    · exact h.nr e
    · omega
theorem steps_c (v : Value) (N : Int) (w : World) (h : ∃ a, v = .pointer a) :
    Calls Tryz.prog 68 #[v, .int .i64 N] w fun e w' => e = .returned (.func (.func 107) #[] #[.pointer (some ⟨w.heap.size + 1, 0, none⟩), .pointer (some ⟨w.heap.size, 0, none⟩)]) ∧ w' = (w.alloc (.cells #[v] 126)).alloc (.cells #[.int .i64 N] 2) := by
  obtain ⟨a, rfl⟩ := h
  go_enter Tryz.func68, Tryz.ntmps68
  go_wp2
  go_ret
  exact ⟨rfl, rfl⟩
/-- The four boxes of a run: three results, and the number of steps. -/
structure FourR (W : World) (k : Nat) (a : Int) (s : Bool) (e n : Int) : Prop where
  b0 : Blk W k 2 #[.int .i64 a]
  b1 : Blk W (k + 1) 4 #[.bool s]
  b2 : Blk W (k + 2) 2 #[.int .i64 e]
  b3 : Blk W (k + 3) 2 #[.int .i64 n]
theorem FourR.same {W W' : World} {k : Nat} {a e n : Int} {s : Bool} (h : FourR W k a s e n) (h0 : ∀ i, i < 4 → W'.heap[k + i]? = W.heap[k + i]?) : FourR W' k a s e n :=
  ⟨(h0 0 (by omega)).trans h.b0, (h0 1 (by omega)).trans h.b1, (h0 2 (by omega)).trans h.b2, (h0 3 (by omega)).trans h.b3⟩
theorem FourR.lt {W : World} {k : Nat} {a e n : Int} {s : Bool} (h : FourR W k a s e n) : k + 3 < W.heap.size := h.b3.lt
end Go.Proofs.YtfghojbbofobeaaGreatDoor
end
section
set_option linter.unusedSimpArgs false
set_option linter.unusedVariables false
namespace Go.Proofs.YtfghojbbofobeaaGreatDoor
open Go Go.RowKit Go.Proofs Go.Shelf
attribute [local go_sem] Oper.semAt_some
set_option maxHeartbeats 400000
section
variable {w0 : World} {b k : Nat} {m : MachD} {c : ConfD} {mv : Value} {N B : Nat}
theorem FourR.turn {W W' : World} {a e n : Int} {s : Bool} (h : FourR W k a s e n) {row : Option Nat} (hg : W.grownBy W' row) (hr : ∀ r, row = some r → ∃ o : Obj, W.heap[r]? = some o ∧ o.isCells = false) : FourR W' k a s e n := by
  refine ⟨h.b0.kept hg (fun e => ?_), h.b1.kept hg (fun e => ?_), h.b2.kept hg (fun e => ?_), h.b3.kept hg (fun e => ?_)⟩
  · exact not_cells (o := .cells #[] 0) h.b0 (hr _ e.symm)
  · exact not_cells (o := .cells #[] 0) h.b1 (hr _ e.symm)
  · exact not_cells (o := .cells #[] 0) h.b2 (hr _ e.symm)
  · exact not_cells (o := .cells #[] 0) h.b3 (hr _ e.symm)
theorem stR_own (h0 : w0.heap.size ≤ B) (pre : List (Int × Bool)) (x : Int × Bool) : OwnFrom B (fun (_ : Unit) W => StR w0 b m c mv N pre x W) := by
  rintro s W W' row ⟨i, lv, rv, hR, h2⟩ hg hr
  exact ⟨i, lv, rv, hR.turn hg (fun r e => ⟨Nat.le_trans h0 (hr r e).1, (hr r e).2⟩), h2⟩
theorem sR_own (h0 : w0.heap.size ≤ B) : OwnFrom B (SR w0 b m c mv N) := by
  rintro s W W' row ⟨i, lv, rv, p, hR, h2⟩ hg hr
  exact ⟨i, lv, rv, p, hR.turn hg (fun r e => ⟨Nat.le_trans h0 (hr r e).1, (hr r e).2⟩), h2⟩
theorem spR_own (h0 : w0.heap.size ≤ B) : OwnFrom B (SpR w0 b m c mv N) := by
  rintro s W W' row ⟨i, lv, rv, p, hR, h2⟩ hg hr
  exact ⟨i, lv, rv, p, hR.turn hg (fun r e => ⟨Nat.le_trans h0 (hr r e).1, (hr r e).2⟩), h2⟩
end
theorem kp_set {w0 W : World} {b bq bp : Nat} {m : MachD} {d : ConfD} {mv lv rv : Value} (h : RunAt w0 W b m d mv lv rv) {p : Addr} (ha : Apt b p.block lv rv) (h0 : w0.heap.size ≤ p.block) (hq : bq ≠ p.block) (hp : bp ≠ p.block) (u : Value) :
    KpR w0 b bq bp m mv W (W.setCell p u) ∧ RunAt w0 (W.setCell p u) b m d mv lv rv := by
  refine ⟨⟨(grownBy_setCell W p u).size, fun d' l' r' h' => ?_, Below.heap_setCell W p u bq hq, Below.heap_setCell W p u bp hp⟩, h.apart ha.nb ha.nl ha.nr h0 u⟩
  obtain ⟨rfl, rfl⟩ := h.vals h'
  exact h'.apart ha.nb ha.nl ha.nr h0 u
end Go.Proofs.YtfghojbbofobeaaGreatDoor
end
section
set_option linter.unusedSimpArgs false
set_option linter.unusedVariables false
namespace Go.Proofs.YtfghojbbofobeaaGreatDoor
open Go Go.RowKit Go.Proofs Go.Shelf
set_option maxHeartbeats 400000
theorem RunAt.lower {w0 w1 w : World} {b : Nat} {m : MachD} {d : ConfD} {mv lv rv : Value} (h : RunAt w1 w b m d mv lv rv) (he : Ext w0 w1) (hr : Rules w0 mv m.rules) : RunAt w0 w b m d mv lv rv :=
  ⟨h.blk, hr, he.trans h.ext0, ownsRow_base h.l he.size, ownsRow_base h.r he.size, h.ap, Nat.le_trans he.size h.low⟩
/-- One row apart from a runner is written on. -/
theorem RunAt.row {w0 A B : World} {b : Nat} {m : MachD} {d : ConfD} {mv lv rv : Value} (h : RunAt w0 A b m d mv lv rv) {row : Option Nat} (hg : A.grownBy B row) (hr : ∀ r, row = some r → w0.heap.size ≤ r ∧ Apt b r lv rv) : RunAt w0 B b m d mv lv rv := by
  refine ⟨h.blk.kept hg (fun e => (hr b e.symm).2.nb rfl), h.rules0, h.ext0.grown hg (fun k hk => (hr k hk).1), ?_, ?_, h.ap, h.low⟩
  · exact own_same h.l (fun g hgl => hg.block g (h.l.lt g hgl).2 (fun e => (hr g e.symm).2.nl hgl))
  · exact own_same h.r (fun g hgl => hg.block g (h.r.lt g hgl).2 (fun e => (hr g e.symm).2.nr hgl))
/-- The variables of the run: the function, both results, the runner, the texts. -/
structure VarT (W : World) (k h b : Nat) (fv : Value) (x : Int) (tv : Value) : Prop where
  f : Blk W (k + 2) 92 #[fv]
  r : Blk W (k + 3) 28 #[.slice none 0 0]
  e : Blk W (k + 4) 2 #[.int .i64 x]
  p : Blk W (h + 1) 126 #[.pointer (some ⟨b, 0, none⟩)]
  t : Blk W (h + 2) 28 #[tv]
theorem VarT.same {W W' : World} {k h b : Nat} {fv tv : Value} {x : Int} (v : VarT W k h b fv x tv) (hs : ∀ i, (i = k + 2 ∨ i = k + 3 ∨ i = k + 4 ∨ i = h + 1 ∨ i = h + 2) → W'.heap[i]? = W.heap[i]?) : VarT W' k h b fv x tv :=
  ⟨(hs _ (.inl rfl)).trans v.f, (hs _ (.inr (.inl rfl))).trans v.r, (hs _ (.inr (.inr (.inl rfl)))).trans v.e, (hs _ (.inr (.inr (.inr (.inl rfl))))).trans v.p, (hs _ (.inr (.inr (.inr (.inr rfl))))).trans v.t⟩
theorem VarT.kept {W W' : World} {k h b : Nat} {fv tv : Value} {x : Int} (v : VarT W k h b fv x tv) {row : Option Nat} (hg : W.grownBy W' row) (hr : ∀ r, row = some r → (∃ o : Obj, W.heap[r]? = some o ∧ o.isCells = false) ∨ (r ≠ k + 2 ∧ r ≠ k + 3 ∧ r ≠ k + 4 ∧ r ≠ h + 1 ∧ r ≠ h + 2)) : VarT W' k h b fv x tv := by
  have key : ∀ {i : Nat} {t : TypeId} {cs : Array Value}, Blk W i t cs → (i = k + 2 ∨ i = k + 3 ∨ i = k + 4 ∨ i = h + 1 ∨ i = h + 2) → Blk W' i t cs := by
    intro i t cs hb hi
    refine hb.kept hg (fun e => ?_)
    rcases hr i e.symm with h1 | ⟨h1, h2, h3, h4, h5⟩
    · exact not_cells (o := .cells #[] 0) hb h1
    · rcases hi with h' | h' | h' | h' | h'
      · exact h1 h'
      · exact h2 h'
      · exact h3 h'
      · exact h4 h'
      · exact h5 h'
  exact ⟨key v.f (.inl rfl), key v.r (.inr (.inl rfl)), key v.e (.inr (.inr (.inl rfl))), key v.p (.inr (.inr (.inr (.inl rfl)))), key v.t (.inr (.inr (.inr (.inr rfl))))⟩
theorem VarT.ext {W W' : World} {k h b : Nat} {fv tv : Value} {x : Int} (v : VarT W k h b fv x tv) (he : Ext W W') : VarT W' k h b fv x tv := ⟨v.f.ext he, v.r.ext he, v.e.ext he, v.p.ext he, v.t.ext he⟩
theorem VarT.setT {W : World} {k h b : Nat} {fv tv : Value} {x : Int} (v : VarT W k h b fv x tv) (hk : k + 5 ≤ h) (u : Value) : VarT (W.setCell ⟨h + 2, 0, none⟩ u) k h b fv x u :=
  ⟨v.f.far (by show k + 2 ≠ h + 2; omega) u, v.r.far (by show k + 3 ≠ h + 2; omega) u, v.e.far (by show k + 4 ≠ h + 2; omega) u, v.p.far (by show h + 1 ≠ h + 2; omega) u, v.t.set_ 0 u⟩
theorem VarT.setR {W : World} {k h b : Nat} {fv tv : Value} {x : Int} (v : VarT W k h b fv x tv) (hk : k + 5 ≤ h) : VarT (W.setCell ⟨k + 3, 0, none⟩ (.slice none 0 0)) k h b fv x tv :=
  ⟨v.f.far (by show k + 2 ≠ k + 3; omega) _, v.r.set_ 0 _, v.e.far (by show k + 4 ≠ k + 3; omega) _, v.p.far (by show h + 1 ≠ k + 3; omega) _, v.t.far (by show h + 2 ≠ k + 3; omega) _⟩
theorem VarT.setE {W : World} {k h b : Nat} {fv tv : Value} {x : Int} (v : VarT W k h b fv x tv) (hk : k + 5 ≤ h) (y : Int) : VarT (W.setCell ⟨k + 4, 0, none⟩ (.int .i64 y)) k h b fv y tv :=
  ⟨v.f.far (by show k + 2 ≠ k + 4; omega) _, v.r.far (by show k + 3 ≠ k + 4; omega) _, v.e.set_ 0 _, v.p.far (by show h + 1 ≠ k + 4; omega) _, v.t.far (by show h + 2 ≠ k + 4; omega) _⟩
/-- An own row of texts is apart from the variables. -/
theorem VarT.row {W : World} {k h b base n : Nat} {fv tv u : Value} {x : Int} {xs : List Value} (v : VarT W k h b fv x tv) (ho : W.ownsRow base 9 1 u n xs) : ∀ g, u.ownBlock = some g → (g ≠ k + 2 ∧ g ≠ k + 3 ∧ g ≠ k + 4 ∧ g ≠ h + 1 ∧ g ≠ h + 2) := by
  intro g hg
  refine ⟨?_, ?_, ?_, ?_, ?_⟩ <;> rintro rfl
  · exact blk_ne_row v.f ho (by decide) hg.symm
  · exact blk_ne_row v.r ho (by decide) hg.symm
  · exact blk_ne_row v.e ho (by decide) hg.symm
  · exact blk_ne_row v.p ho (by decide) hg.symm
  · exact blk_ne_row v.t ho (by decide) hg.symm
/-- The variables are apart from a runner. -/
def AptV (b k h : Nat) (lv rv : Value) : Prop := ∀ i, (i = k + 2 ∨ i = k + 3 ∨ i = k + 4 ∨ i = h + 1 ∨ i = h + 2) → Apt b i lv rv
/-- The texts of the first n configurations. -/
def firstT (M : MachD) (c : ConfD) (f : ConfD → List UInt8) (n : Nat) : List (List UInt8) := (List.range n).map fun i => f (cfgI M c i)
theorem firstT_length (M : MachD) (c : ConfD) (f : ConfD → List UInt8) (n : Nat) : (firstT M c f n).length = n := by simp [firstT]
theorem firstT_svB (M : MachD) (c : ConfD) (f : ConfD → List UInt8) (n : Nat) : svB (firstT M c f (n + 1)) = svB (firstT M c f n) ++ [.string (bsS (f (cfgI M c n)))] := by simp [firstT, svB, List.range_succ]
/-- The pairs of the first n rounds. -/
def roundsT (n : Nat) : List (Int × Bool) := (List.range n).map fun (i : Nat) => ((i : Int), true)
theorem roundsT_succ (n : Nat) : roundsT (n + 1) = roundsT n ++ [((n : Int), true)] := by simp [roundsT, List.range_succ]
theorem roundsT_last {xs pre : List (Int × Bool)} {i : Nat} {s : Bool} (h : xs = roundsT xs.length) (h' : xs = pre ++ [((i : Int), s)]) : xs.length = i + 1 ∧ s = true := by
  have hl : xs.length = pre.length + 1 := by rw [h']; simp
  rw [hl, roundsT_succ] at h
  rw [h] at h'
  have := List.append_inj_right' h' rfl
  simp only [List.cons.injEq, Prod.mk.injEq, and_true] at this
  obtain ⟨h1, h2⟩ := this
  have : (pre.length : Int) = i := h1
  exact ⟨by omega, h2.symm⟩
/-- What holds between two rounds. -/
def IFt (w0 : World) (b : Nat) (M : MachD) (mv : Value) (k h : Nat) (fv : Value) (c : ConfD) (f : ConfD → List UInt8) (pre : List (Int × Bool)) (W : World) : Prop :=
  ∃ d lv rv tv, RunAt w0 W b M d mv lv rv ∧ AptV b k h lv rv ∧ VarT W k h b fv 0 tv ∧ W.ownsRow h 9 1 tv pre.length (svB (firstT M c f pre.length)) ∧ (∀ g, tv.ownBlock = some g → Apt b g lv rv ∧ g ≠ h + 3 ∧ g ≠ h + 4) ∧ pre = roundsT pre.length ∧ h + 5 ≤ W.heap.size
/-- What holds when a round has left the loop. -/
def IxFt (w0 : World) (b k h : Nat) (fv : Value) (cd : Code) (pre : List (Int × Bool)) (W : World) : Prop :=
  cd = .ret ∧ (∃ p x, pre = p ++ [x] ∧ x.2 = false) ∧ (∃ tv, VarT W k h b fv 5 tv) ∧ Ext w0 W
section
variable {w0 : World} {b k h B : Nat} {M : MachD} {c : ConfD} {mv fv : Value} {f : ConfD → List UInt8}
theorem iFt_own (h0 : w0.heap.size ≤ B) : OwnFrom B (IFt w0 b M mv k h fv c f) := by
  rintro s W W' row ⟨d, lv, rv, tv, hR, hA, hV, ho, hT, hp, hz⟩ hg hr
  exact ⟨d, lv, rv, tv, hR.turn hg (fun r e => ⟨Nat.le_trans h0 (hr r e).1, (hr r e).2⟩), hA, hV.kept hg (fun r e => .inl (hr r e).2), own_same ho (fun g hgl => hg.block g (ho.lt g hgl).2 (fun e => own_not_cells ho hgl (hr g e.symm).2)), hT, hp, Nat.le_trans hz hg.size⟩
theorem ixFt_own (h0 : w0.heap.size ≤ B) (cd : Code) : OwnFrom B (IxFt w0 b k h fv cd) := by
  rintro s W W' row ⟨h1, h2, ⟨tv, hV⟩, hE⟩ hg hr
  exact ⟨h1, h2, ⟨tv, hV.kept hg (fun r e => .inl (hr r e).2)⟩, hE.grown hg (fun r e => Nat.le_trans h0 (hr r e).1)⟩
theorem iFt_w (s : List (Int × Bool)) (X Y : World) (hI : IFt w0 b M mv k h fv c f s X) (hw : WrR w0 b M mv X Y) : IFt w0 b M mv k h fv c f s Y := by
  obtain ⟨d, lv, rv, tv, hR, hA, hV, ho, hT, hp, hz⟩ := hI
  obtain ⟨d1, l1, r1, d2, l2, r2, h1, h2, hm⟩ := hw
  obtain ⟨rfl, rfl⟩ := hR.vals h1
  have hsz : ∀ i, (i = k + 2 ∨ i = k + 3 ∨ i = k + 4 ∨ i = h + 1 ∨ i = h + 2) → i < X.heap.size := by
    rintro i (e | e | e | e | e) <;> rw [e]
    · exact hV.f.lt
    · exact hV.r.lt
    · exact hV.e.lt
    · exact hV.p.lt
    · exact hV.t.lt
  exact ⟨d2, l2, r2, tv, h2, fun i hi => ((hA i hi).moved hm (hsz i hi)).1, hV.same (fun i hi => ((hA i hi).moved hm (hsz i hi)).2), own_same ho (fun g hg => ((hT g hg).1.moved hm (ho.lt g hg).2).2), fun g hg => ⟨((hT g hg).1.moved hm (ho.lt g hg).2).1, (hT g hg).2⟩, hp, Nat.le_trans hz hm.size⟩
end
/-- What the texts of a run come to. -/
def TxtOut (w0 : World) (M : MachD) (c : ConfD) (N : Nat) (f : ConfD → List UInt8) (e : Ending) (w' : World) : Prop :=
  ∃ L kk tv, e = .returned (.tuple #[tv, .int .i64 kk]) ∧ w'.ownsRow w0.heap.size 9 1 tv L.length (svB L) ∧ TRun M c N f L kk ∧ Ext w0 w'
/-- A round that keeps the runner. -/
theorem kp_of {w0 W W' : World} {b bq bp : Nat} {m : MachD} {d : ConfD} {mv lv rv : Value} (h : RunAt w0 W b m d mv lv rv) (hK : ∀ d', RunAt w0 W b m d' mv lv rv → RunAt w0 W' b m d' mv lv rv) (hs : W.heap.size ≤ W'.heap.size) (h1 : W'.heap[bq]? = W.heap[bq]?) (h2 : W'.heap[bp]? = W.heap[bp]?) : KpR w0 b bq bp m mv W W' :=
  ⟨hs, fun d' l r hr => by obtain ⟨rfl, rfl⟩ := h.vals hr; exact hK _ hr, h1, h2⟩
end Go.Proofs.YtfghojbbofobeaaGreatDoor
end
