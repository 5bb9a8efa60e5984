/- Contract of the program's run of a machine by its runner. The machine is valid and the configuration is one of its.
Contract of the program's run of a machine by its runner. The machine is valid and the configuration is one of its. -/
import Derived.Test.YtjcfmlecfjmcgaaGreatDoorS30
import Derived.Test.YtjcfmlecfjmcgaaGreatDoorS14
import Derived.Deep.RegionHeld3
section
set_option linter.unusedSimpArgs false
set_option linter.unusedVariables false
namespace Go.Proofs.YtjcfmlecfjmcgaaGreatDoor
open Go Go.RowKit Go.Proofs Go.Shelf
attribute [local go_sem] Oper.semAt_some
set_option maxHeartbeats 400000
section
variable {w0 w w' A B : World} {b bq bp : Nat} {m : MachD} {c d d' : ConfD} {mv lv rv lv' rv' : Value} {N : Nat}
theorem RunAt.vals (h : RunAt w0 w b m d mv lv rv) (h' : RunAt w0 w b m d' mv lv' rv') : lv = lv' ∧ rv = rv' := by
  have e := (h.blk.symm.trans h'.blk)
  simp at e
  exact ⟨e.2.1, e.2.2⟩
theorem not_cells {k : Nat} {o : Obj} {t : TypeId} {cs : Array Value} (h : Blk A k t cs) (ho : ∃ o, A.heap[k]? = some o ∧ o.isCells = false) : False := by
  obtain ⟨o, h1, h2⟩ := ho
  rw [h] at h1
  cases h1
  cases h2
theorem own_not_cells {base k : Nat} {e : TypeId} {size n : Nat} {v : Value} {xs : List Value} (h : A.ownsRow base e size v n xs) (hv : v.ownBlock = some k) (ho : ∃ o, A.heap[k]? = some o ∧ o.isCells = false) : False := by
  rcases h.2 with ⟨rfl, _⟩ | ⟨g, cap, cur, rfl, _, hg, _⟩
  · simp [Value.ownBlock] at hv
  · simp [Value.ownBlock] at hv
    subst hv
    obtain ⟨o, h1, h2⟩ := ho
    rw [hg] at h1
    cases h1
    cases h2
/-- What no runner has is turned. -/
theorem RunAt.turn (h : RunAt w0 A b m d mv lv rv) {row : Option Nat} (hg : A.grownBy B row) (hr : ∀ r, row = some r → w0.heap.size ≤ r ∧ ∃ o : Obj, A.heap[r]? = some o ∧ o.isCells = false) : RunAt w0 B b m d mv lv rv := by
  refine ⟨h.blk.kept hg (fun e => not_cells (o := .cells #[] 0) h.blk (hr b e.symm).2), h.rules0, h.ext0.grown hg (fun k hk => (hr k hk).1), ?_, ?_, h.ap, h.low⟩
  · exact own_same h.l (fun g hgl => hg.block g (h.l.lt g hgl).2 (fun e => own_not_cells h.l hgl (hr g e.symm).2))
  · exact own_same h.r (fun g hgl => hg.block g (h.r.lt g hgl).2 (fun e => own_not_cells h.r hgl (hr g e.symm).2))
theorem RunAt.apart (h : RunAt w0 A b m d mv lv rv) {p : Addr} (hb : p.block ≠ b) (hl : lv.ownBlock ≠ some p.block) (hr : rv.ownBlock ≠ some p.block) (hp : w0.heap.size ≤ p.block) (u : Value) : RunAt w0 (A.setCell p u) b m d mv lv rv :=
  ⟨h.blk.far (Ne.symm hb) u, h.rules0, h.ext0.setCell hp u, ownsRow_far h.l (fun k hk e => hl (by rw [← e]; exact hk)) u, ownsRow_far h.r (fun k hk e => hr (by rw [← e]; exact hk)) u, h.ap, h.low⟩
theorem KpR.trans {C : World} (h : KpR w0 b bq bp m mv A B) (k : KpR w0 b bq bp m mv B C) : KpR w0 b bq bp m mv A C :=
  ⟨Nat.le_trans h.1 k.1, fun d lv rv hr => k.2.1 d lv rv (h.2.1 d lv rv hr), k.2.2.1.trans h.2.2.1, k.2.2.2.trans h.2.2.2⟩
theorem KpR.turn (W : World) (l : Nat) (o o' : Obj) (h0 : w0.heap.size ≤ l) (hq : bq < l) (hp : bp < l) (h : W.heap[l]? = some o) (ho : o.isCells = false) : KpR w0 b bq bp m mv W (W.putObj l o') := by
  have hg := grownBy_putObj' W l o'
  have hl := (Array.getElem?_eq_some_iff.1 h).1
  exact ⟨hg.size, fun d lv rv hr => hr.turn hg (fun r e => by cases e; exact ⟨h0, o, h, ho⟩), hg.block bq (by omega) (fun e => by injection e with e; omega), hg.block bp (by omega) (fun e => by injection e with e; omega)⟩
theorem WrR.keeps (h : WrR w0 b m mv A B) : KeepsOthers A B := by
  obtain ⟨d, lv, rv, d', lv', rv', h1, h2, hm⟩ := h
  refine ⟨hm.size, fun k o hk ho => ?_⟩
  have hlt := (Array.getElem?_eq_some_iff.1 hk).1
  refine (hm.same k hlt (fun e => ?_) (fun e => own_not_cells h1.l e ⟨o, hk, ho⟩) (fun e => own_not_cells h1.r e ⟨o, hk, ho⟩)).trans hk
  subst e
  exact not_cells (o := o) h1.blk ⟨o, hk, ho⟩
end
/-- What lies apart from a runner. -/
structure Apt (b k : Nat) (lv rv : Value) : Prop where
  nb : k ≠ b
  nl : lv.ownBlock ≠ some k
  nr : rv.ownBlock ≠ some k
theorem Apt.moved {b k : Nat} {A B : World} {lv rv lv' rv' : Value} (h : Apt b k lv rv) (hm : Moved b A B lv rv lv' rv') (hk : k < A.heap.size) : Apt b k lv' rv' ∧ B.heap[k]? = A.heap[k]? := by
  refine ⟨⟨h.nb, fun e => ?_, fun e => ?_⟩, hm.same k hk h.nb h.nl h.nr⟩
  · rcases hm.newl _ e with e | e | e
    · exact h.nl e
    · exact h.nr e
    · omega
  · rcases hm.newr _ e with e | e | e
    · exact h.nl e
    · exact h.nr e
    · omega
theorem steps_c (v : Value) (N : Int) (w : World) (h : ∃ a, v = .pointer a) :
    Calls Tryz.prog 64 #[v, .int .i64 N] w fun e w' => e = .returned (.func (.func 97) #[] #[.pointer (some ⟨w.heap.size + 1, 0, none⟩), .pointer (some ⟨w.heap.size, 0, none⟩)]) ∧ w' = (w.alloc (.cells #[v] 108)).alloc (.cells #[.int .i64 N] 2) := by
  obtain ⟨a, rfl⟩ := h
  go_enter Tryz.func64, Tryz.ntmps64
  go_wp2
  go_ret
  exact ⟨rfl, rfl⟩
def lastN (pre : List (Int × Bool)) : Int := (pre.getLast?.map (·.1)).getD 0
theorem lastN_snoc (pre : List (Int × Bool)) (x : Int × Bool) : lastN (pre ++ [x]) = x.1 := by simp [lastN]
/-- The four boxes of a run: three results, and the number of steps. -/
structure FourR (W : World) (k : Nat) (a : Int) (s : Bool) (e n : Int) : Prop where
  b0 : Blk W k 2 #[.int .i64 a]
  b1 : Blk W (k + 1) 4 #[.bool s]
  b2 : Blk W (k + 2) 2 #[.int .i64 e]
  b3 : Blk W (k + 3) 2 #[.int .i64 n]
theorem FourR.same {W W' : World} {k : Nat} {a e n : Int} {s : Bool} (h : FourR W k a s e n) (h0 : ∀ i, i < 4 → W'.heap[k + i]? = W.heap[k + i]?) : FourR W' k a s e n :=
  ⟨(h0 0 (by omega)).trans h.b0, (h0 1 (by omega)).trans h.b1, (h0 2 (by omega)).trans h.b2, (h0 3 (by omega)).trans h.b3⟩
theorem FourR.lt {W : World} {k : Nat} {a e n : Int} {s : Bool} (h : FourR W k a s e n) : k + 3 < W.heap.size := h.b3.lt
/-- What holds between two rounds. -/
def IRun (w0 : World) (b : Nat) (m : MachD) (mv : Value) (k : Nat) (pre : List (Int × Bool)) (W : World) : Prop :=
  (∃ d lv rv, RunAt w0 W b m d mv lv rv ∧ ∀ i, i < 4 → Apt b (k + i) lv rv) ∧ FourR W k 0 false 0 (lastN pre) ∧ ∀ x ∈ pre, x.2 = true
/-- What holds when a round has left the loop. -/
def IxRun (w0 : World) (k : Nat) (cd : Code) (pre : List (Int × Bool)) (W : World) : Prop :=
  cd = .ret ∧ (∃ p x, pre = p ++ [x] ∧ x.2 = false) ∧ (∃ n, FourR W k 0 false 5 n) ∧ Ext w0 W
/-- What a run comes to. -/
def RunOut (w0 : World) (b : Nat) (m : MachD) (c : ConfD) (mv : Value) (N : Nat) (e : Ending) (w' : World) : Prop :=
  (∃ (i : Nat) (lv rv : Value), EndAt m c N i ∧ e = .returned (.tuple #[.int .i64 i, .bool (decide (lookI m (cfgI m c i) = noR)), .int .i64 0]) ∧ RunAt w0 w' b m (cfgI m c i) mv lv rv) ∨
    ((∃ i, FullAt m c N i) ∧ e = .returned (.tuple #[.int .i64 0, .bool false, .int .i64 5]) ∧ Ext w0 w')
end Go.Proofs.YtjcfmlecfjmcgaaGreatDoor
end
section
set_option linter.unusedSimpArgs false
set_option linter.unusedVariables false
namespace Go.Proofs.YtjcfmlecfjmcgaaGreatDoor
open Go Go.RowKit Go.Proofs Go.Shelf
attribute [local go_sem] Oper.semAt_some
set_option maxHeartbeats 400000
section
variable {w0 : World} {b k : Nat} {m : MachD} {c : ConfD} {mv : Value} {N B : Nat}
theorem FourR.turn {W W' : World} {a e n : Int} {s : Bool} (h : FourR W k a s e n) {row : Option Nat} (hg : W.grownBy W' row) (hr : ∀ r, row = some r → ∃ o : Obj, W.heap[r]? = some o ∧ o.isCells = false) : FourR W' k a s e n := by
  refine ⟨h.b0.kept hg (fun e => ?_), h.b1.kept hg (fun e => ?_), h.b2.kept hg (fun e => ?_), h.b3.kept hg (fun e => ?_)⟩
  · exact not_cells (o := .cells #[] 0) h.b0 (hr _ e.symm)
  · exact not_cells (o := .cells #[] 0) h.b1 (hr _ e.symm)
  · exact not_cells (o := .cells #[] 0) h.b2 (hr _ e.symm)
  · exact not_cells (o := .cells #[] 0) h.b3 (hr _ e.symm)
theorem iRun_own (h0 : w0.heap.size ≤ B) : OwnFrom B (IRun w0 b m mv k) := by
  rintro s W W' row ⟨⟨d, lv, rv, hR, hA⟩, hF, hT⟩ hg hr
  exact ⟨⟨d, lv, rv, hR.turn hg (fun r e => ⟨Nat.le_trans h0 (hr r e).1, (hr r e).2⟩), hA⟩, hF.turn hg (fun r e => (hr r e).2), hT⟩
theorem ixRun_own (h0 : w0.heap.size ≤ B) (cd : Code) : OwnFrom B (IxRun w0 k cd) := by
  rintro s W W' row ⟨h1, h2, ⟨n, hF⟩, hE⟩ hg hr
  exact ⟨h1, h2, ⟨n, hF.turn hg (fun r e => (hr r e).2)⟩, hE.grown hg (fun r e => Nat.le_trans h0 (hr r e).1)⟩
theorem iRun_w (s : List (Int × Bool)) (X Y : World) (h : IRun w0 b m mv k s X) (hw : WrR w0 b m mv X Y) : IRun w0 b m mv k s Y := by
  obtain ⟨⟨d, lv, rv, hR, hA⟩, hF, hT⟩ := h
  obtain ⟨d1, l1, r1, d2, l2, r2, h1, h2, hm⟩ := hw
  obtain ⟨rfl, rfl⟩ := hR.vals h1
  have hlt := hF.lt
  exact ⟨⟨d2, l2, r2, h2, fun i hi => ((hA i hi).moved hm (by omega)).1⟩, hF.same (fun i hi => ((hA i hi).moved hm (by omega)).2), hT⟩
theorem stR_own (h0 : w0.heap.size ≤ B) (pre : List (Int × Bool)) (x : Int × Bool) : OwnFrom B (fun (_ : Unit) W => StR w0 b m c mv N pre x W) := by
  rintro s W W' row ⟨i, lv, rv, hR, h2⟩ hg hr
  exact ⟨i, lv, rv, hR.turn hg (fun r e => ⟨Nat.le_trans h0 (hr r e).1, (hr r e).2⟩), h2⟩
theorem sR_own (h0 : w0.heap.size ≤ B) : OwnFrom B (SR w0 b m c mv N) := by
  rintro s W W' row ⟨i, lv, rv, p, hR, h2⟩ hg hr
  exact ⟨i, lv, rv, p, hR.turn hg (fun r e => ⟨Nat.le_trans h0 (hr r e).1, (hr r e).2⟩), h2⟩
theorem spR_own (h0 : w0.heap.size ≤ B) : OwnFrom B (SpR w0 b m c mv N) := by
  rintro s W W' row ⟨i, lv, rv, p, hR, h2⟩ hg hr
  exact ⟨i, lv, rv, p, hR.turn hg (fun r e => ⟨Nat.le_trans h0 (hr r e).1, (hr r e).2⟩), h2⟩
end
theorem kp_set {w0 W : World} {b bq bp : Nat} {m : MachD} {d : ConfD} {mv lv rv : Value} (h : RunAt w0 W b m d mv lv rv) {p : Addr} (ha : Apt b p.block lv rv) (h0 : w0.heap.size ≤ p.block) (hq : bq ≠ p.block) (hp : bp ≠ p.block) (u : Value) :
    KpR w0 b bq bp m mv W (W.setCell p u) ∧ RunAt w0 (W.setCell p u) b m d mv lv rv := by
  refine ⟨⟨(grownBy_setCell W p u).size, fun d' l' r' h' => ?_, Below.heap_setCell W p u bq hq, Below.heap_setCell W p u bp hp⟩, h.apart ha.nb ha.nl ha.nr h0 u⟩
  obtain ⟨rfl, rfl⟩ := h.vals h'
  exact h'.apart ha.nb ha.nl ha.nr h0 u
theorem FourR.set0 {W : World} {k : Nat} {a e n : Int} {s : Bool} (h : FourR W k a s e n) (x : Int) : FourR (W.setCell ⟨k, 0, none⟩ (.int .i64 x)) k x s e n :=
  ⟨h.b0.set_ 0 _, h.b1.far (by simp) _, h.b2.far (by simp) _, h.b3.far (by simp) _⟩
theorem FourR.set1 {W : World} {k : Nat} {a e n : Int} {s : Bool} (h : FourR W k a s e n) (x : Bool) : FourR (W.setCell ⟨k + 1, 0, none⟩ (.bool x)) k a x e n :=
  ⟨h.b0.far (by simp) _, h.b1.set_ 0 _, h.b2.far (by simp) _, h.b3.far (by simp) _⟩
theorem FourR.set2 {W : World} {k : Nat} {a e n : Int} {s : Bool} (h : FourR W k a s e n) (x : Int) : FourR (W.setCell ⟨k + 1 + 1, 0, none⟩ (.int .i64 x)) k a s x n :=
  ⟨h.b0.far (by show k ≠ k + 1 + 1; omega) _, h.b1.far (by simp) _, h.b2.set_ 0 _, h.b3.far (by simp) _⟩
theorem FourR.set3 {W : World} {k : Nat} {a e n : Int} {s : Bool} (h : FourR W k a s e n) (x : Int) : FourR (W.setCell ⟨k + 1 + 1 + 1, 0, none⟩ (.int .i64 x)) k a s e x :=
  ⟨h.b0.far (by show k ≠ k + 1 + 1 + 1; omega) _, h.b1.far (by show k + 1 ≠ k + 1 + 1 + 1; omega) _, h.b2.far (by simp) _, h.b3.set_ 0 _⟩
end Go.Proofs.YtjcfmlecfjmcgaaGreatDoor
end
