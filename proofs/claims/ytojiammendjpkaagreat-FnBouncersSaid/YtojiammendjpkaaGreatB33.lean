/- Contract of the program's run of a machine by its runner. The machine is valid and the configuration is one of its.
Contract of the program's run of a machine by its runner. The machine is valid and the configuration is one of its.
Contract of the program's RunMachine. -/
import Derived.Test.YtojiammendjpkaaGreatB32
import Derived.Test.YtojiammendjpkaaGreatB10
import Derived.Deep.RegionHeld3
section
set_option linter.unusedSimpArgs false
set_option linter.unusedVariables false
namespace Go.Proofs.YtojiammendjpkaaGreat
open Go Go.RowKit Go.Proofs Go.Shelf
attribute [local go_sem] Oper.semAt_some
set_option maxHeartbeats 400000
section
variable {w0 w w' A B : World} {b bq bp : Nat} {m : MachD} {c d d' : ConfD} {mv lv rv lv' rv' : Value} {N : Nat}
theorem RunAt.vals (h : RunAt w0 w b m d mv lv rv) (h' : RunAt w0 w b m d' mv lv' rv') : lv = lv' ∧ rv = rv' := by
  have e := (h.blk.symm.trans h'.blk)
  simp at e
  exact ⟨e.2.1, e.2.2⟩
theorem not_cells {k : Nat} {o : Obj} {t : TypeId} {cs : Array Value} (h : Blk A k t cs) (ho : ∃ o, A.heap[k]? = some o ∧ o.isCells = false) : False := by
  obtain ⟨o, h1, h2⟩ := ho
  rw [h] at h1
  cases h1
  cases h2
theorem own_not_cells {base k : Nat} {e : TypeId} {size n : Nat} {v : Value} {xs : List Value} (h : A.ownsRow base e size v n xs) (hv : v.ownBlock = some k) (ho : ∃ o, A.heap[k]? = some o ∧ o.isCells = false) : False := by
  rcases h.2 with ⟨rfl, _⟩ | ⟨g, cap, cur, rfl, _, hg, _⟩
  · simp [Value.ownBlock] at hv
  · simp [Value.ownBlock] at hv
    subst hv
    obtain ⟨o, h1, h2⟩ := ho
    rw [hg] at h1
    cases h1
    cases h2
/-- What no runner has is turned. -/
theorem RunAt.turn (h : RunAt w0 A b m d mv lv rv) {row : Option Nat} (hg : A.grownBy B row) (hr : ∀ r, row = some r → w0.heap.size ≤ r ∧ ∃ o : Obj, A.heap[r]? = some o ∧ o.isCells = false) : RunAt w0 B b m d mv lv rv := by
  refine ⟨h.blk.kept hg (fun e => not_cells (o := .cells #[] 0) h.blk (hr b e.symm).2), h.rules0, h.ext0.grown hg (fun k hk => (hr k hk).1), ?_, ?_, h.ap, h.low⟩
  · exact own_same h.l (fun g hgl => hg.block g (h.l.lt g hgl).2 (fun e => own_not_cells h.l hgl (hr g e.symm).2))
  · exact own_same h.r (fun g hgl => hg.block g (h.r.lt g hgl).2 (fun e => own_not_cells h.r hgl (hr g e.symm).2))
theorem RunAt.apart (h : RunAt w0 A b m d mv lv rv) {p : Addr} (hb : p.block ≠ b) (hl : lv.ownBlock ≠ some p.block) (hr : rv.ownBlock ≠ some p.block) (hp : w0.heap.size ≤ p.block) (u : Value) : RunAt w0 (A.setCell p u) b m d mv lv rv :=
  ⟨h.blk.far (Ne.symm hb) u, h.rules0, h.ext0.setCell hp u, ownsRow_far h.l (fun k hk e => hl (by rw [← e]; exact hk)) u, ownsRow_far h.r (fun k hk e => hr (by rw [← e]; exact hk)) u, h.ap, h.low⟩
theorem KpR.trans {C : World} (h : KpR w0 b bq bp m mv A B) (k : KpR w0 b bq bp m mv B C) : KpR w0 b bq bp m mv A C :=
  ⟨Nat.le_trans h.1 k.1, fun d lv rv hr => k.2.1 d lv rv (h.2.1 d lv rv hr), k.2.2.1.trans h.2.2.1, k.2.2.2.trans h.2.2.2⟩
theorem KpR.turn (W : World) (l : Nat) (o o' : Obj) (h0 : w0.heap.size ≤ l) (hq : bq < l) (hp : bp < l) (h : W.heap[l]? = some o) (ho : o.isCells = false) : KpR w0 b bq bp m mv W (W.putObj l o') := by
  have hg := grownBy_putObj' W l o'
  have hl := (Array.getElem?_eq_some_iff.1 h).1
  exact ⟨hg.size, fun d lv rv hr => hr.turn hg (fun r e => by cases e; exact ⟨h0, o, h, ho⟩), hg.block bq (by omega) (fun e => by injection e with e; omega), hg.block bp (by omega) (fun e => by injection e with e; omega)⟩
theorem WrR.keeps (h : WrR w0 b m mv A B) : KeepsOthers A B := by
  obtain ⟨d, lv, rv, d', lv', rv', h1, h2, hm⟩ := h
  refine ⟨hm.size, fun k o hk ho => ?_⟩
  have hlt := (Array.getElem?_eq_some_iff.1 hk).1
  refine (hm.same k hlt (fun e => ?_) (fun e => own_not_cells h1.l e ⟨o, hk, ho⟩) (fun e => own_not_cells h1.r e ⟨o, hk, ho⟩)).trans hk
  subst e
  exact not_cells (o := o) h1.blk ⟨o, hk, ho⟩
end
/-- What lies apart from a runner. -/
structure Apt (b k : Nat) (lv rv : Value) : Prop where
  nb : k ≠ b
  nl : lv.ownBlock ≠ some k
  nr : rv.ownBlock ≠ some k
theorem Apt.moved {b k : Nat} {A B : World} {lv rv lv' rv' : Value} (h : Apt b k lv rv) (hm : Moved b A B lv rv lv' rv') (hk : k < A.heap.size) : Apt b k lv' rv' ∧ B.heap[k]? = A.heap[k]? := by
  refine ⟨⟨h.nb, fun e => ?_, fun e => ?_⟩, hm.same k hk h.nb h.nl h.nr⟩
  · rcases hm.newl _ e with e | e | e
    · exact h.nl e
    · exact h.nr e
    · omega
  · rcases hm.newr _ e with e | e | e
    · exact h.nl e
    · exact h.nr e
    · omega
theorem steps_c (v : Value) (N : Int) (w : World) (h : ∃ a, v = .pointer a) :
    Calls Tryz.prog 109 #[v, .int .i64 N] w fun e w' => e = .returned (.func (.func 154) #[] #[.pointer (some ⟨w.heap.size + 1, 0, none⟩), .pointer (some ⟨w.heap.size, 0, none⟩)]) ∧ w' = (w.alloc (.cells #[v] 88)).alloc (.cells #[.int .i64 N] 2) := by
  obtain ⟨a, rfl⟩ := h
  go_enter Tryz.func109, Tryz.ntmps109
  go_wp2
  go_ret
  exact ⟨rfl, rfl⟩
def lastN (pre : List (Int × Bool)) : Int := (pre.getLast?.map (·.1)).getD 0
theorem lastN_snoc (pre : List (Int × Bool)) (x : Int × Bool) : lastN (pre ++ [x]) = x.1 := by simp [lastN]
/-- The four boxes of a run: three results, and the number of steps. -/
structure FourR (W : World) (k : Nat) (a : Int) (s : Bool) (e n : Int) : Prop where
  b0 : Blk W k 2 #[.int .i64 a]
  b1 : Blk W (k + 1) 4 #[.bool s]
  b2 : Blk W (k + 2) 2 #[.int .i64 e]
  b3 : Blk W (k + 3) 2 #[.int .i64 n]
theorem FourR.same {W W' : World} {k : Nat} {a e n : Int} {s : Bool} (h : FourR W k a s e n) (h0 : ∀ i, i < 4 → W'.heap[k + i]? = W.heap[k + i]?) : FourR W' k a s e n :=
  ⟨(h0 0 (by omega)).trans h.b0, (h0 1 (by omega)).trans h.b1, (h0 2 (by omega)).trans h.b2, (h0 3 (by omega)).trans h.b3⟩
theorem FourR.lt {W : World} {k : Nat} {a e n : Int} {s : Bool} (h : FourR W k a s e n) : k + 3 < W.heap.size := h.b3.lt
/-- What holds between two rounds. -/
def IRun (w0 : World) (b : Nat) (m : MachD) (mv : Value) (k : Nat) (pre : List (Int × Bool)) (W : World) : Prop :=
  (∃ d lv rv, RunAt w0 W b m d mv lv rv ∧ ∀ i, i < 4 → Apt b (k + i) lv rv) ∧ FourR W k 0 false 0 (lastN pre) ∧ ∀ x ∈ pre, x.2 = true
/-- What holds when a round has left the loop. -/
def IxRun (w0 : World) (k : Nat) (cd : Code) (pre : List (Int × Bool)) (W : World) : Prop :=
  cd = .ret ∧ (∃ p x, pre = p ++ [x] ∧ x.2 = false) ∧ (∃ n, FourR W k 0 false 5 n) ∧ Ext w0 W
/-- What a run comes to. -/
def RunOut (w0 : World) (b : Nat) (m : MachD) (c : ConfD) (mv : Value) (N : Nat) (e : Ending) (w' : World) : Prop :=
  (∃ (i : Nat) (lv rv : Value), EndAt m c N i ∧ e = .returned (.tuple #[.int .i64 i, .bool (decide (lookI m (cfgI m c i) = noR)), .int .i64 0]) ∧ RunAt w0 w' b m (cfgI m c i) mv lv rv) ∨
    ((∃ i, FullAt m c N i) ∧ e = .returned (.tuple #[.int .i64 0, .bool false, .int .i64 5]) ∧ Ext w0 w')
end Go.Proofs.YtojiammendjpkaaGreat
end
section
set_option linter.unusedSimpArgs false
set_option linter.unusedVariables false
namespace Go.Proofs.YtojiammendjpkaaGreat
open Go Go.RowKit Go.Proofs Go.Shelf
attribute [local go_sem] Oper.semAt_some
set_option maxHeartbeats 400000
section
variable {w0 : World} {b k : Nat} {m : MachD} {c : ConfD} {mv : Value} {N B : Nat}
theorem FourR.turn {W W' : World} {a e n : Int} {s : Bool} (h : FourR W k a s e n) {row : Option Nat} (hg : W.grownBy W' row) (hr : ∀ r, row = some r → ∃ o : Obj, W.heap[r]? = some o ∧ o.isCells = false) : FourR W' k a s e n := by
  refine ⟨h.b0.kept hg (fun e => ?_), h.b1.kept hg (fun e => ?_), h.b2.kept hg (fun e => ?_), h.b3.kept hg (fun e => ?_)⟩
  · exact not_cells (o := .cells #[] 0) h.b0 (hr _ e.symm)
  · exact not_cells (o := .cells #[] 0) h.b1 (hr _ e.symm)
  · exact not_cells (o := .cells #[] 0) h.b2 (hr _ e.symm)
  · exact not_cells (o := .cells #[] 0) h.b3 (hr _ e.symm)
theorem iRun_own (h0 : w0.heap.size ≤ B) : OwnFrom B (IRun w0 b m mv k) := by
  rintro s W W' row ⟨⟨d, lv, rv, hR, hA⟩, hF, hT⟩ hg hr
  exact ⟨⟨d, lv, rv, hR.turn hg (fun r e => ⟨Nat.le_trans h0 (hr r e).1, (hr r e).2⟩), hA⟩, hF.turn hg (fun r e => (hr r e).2), hT⟩
theorem ixRun_own (h0 : w0.heap.size ≤ B) (cd : Code) : OwnFrom B (IxRun w0 k cd) := by
  rintro s W W' row ⟨h1, h2, ⟨n, hF⟩, hE⟩ hg hr
  exact ⟨h1, h2, ⟨n, hF.turn hg (fun r e => (hr r e).2)⟩, hE.grown hg (fun r e => Nat.le_trans h0 (hr r e).1)⟩
theorem iRun_w (s : List (Int × Bool)) (X Y : World) (h : IRun w0 b m mv k s X) (hw : WrR w0 b m mv X Y) : IRun w0 b m mv k s Y := by
  obtain ⟨⟨d, lv, rv, hR, hA⟩, hF, hT⟩ := h
  obtain ⟨d1, l1, r1, d2, l2, r2, h1, h2, hm⟩ := hw
  obtain ⟨rfl, rfl⟩ := hR.vals h1
  have hlt := hF.lt
  exact ⟨⟨d2, l2, r2, h2, fun i hi => ((hA i hi).moved hm (by omega)).1⟩, hF.same (fun i hi => ((hA i hi).moved hm (by omega)).2), hT⟩
theorem stR_own (h0 : w0.heap.size ≤ B) (pre : List (Int × Bool)) (x : Int × Bool) : OwnFrom B (fun (_ : Unit) W => StR w0 b m c mv N pre x W) := by
  rintro s W W' row ⟨i, lv, rv, hR, h2⟩ hg hr
  exact ⟨i, lv, rv, hR.turn hg (fun r e => ⟨Nat.le_trans h0 (hr r e).1, (hr r e).2⟩), h2⟩
theorem sR_own (h0 : w0.heap.size ≤ B) : OwnFrom B (SR w0 b m c mv N) := by
  rintro s W W' row ⟨i, lv, rv, p, hR, h2⟩ hg hr
  exact ⟨i, lv, rv, p, hR.turn hg (fun r e => ⟨Nat.le_trans h0 (hr r e).1, (hr r e).2⟩), h2⟩
theorem spR_own (h0 : w0.heap.size ≤ B) : OwnFrom B (SpR w0 b m c mv N) := by
  rintro s W W' row ⟨i, lv, rv, p, hR, h2⟩ hg hr
  exact ⟨i, lv, rv, p, hR.turn hg (fun r e => ⟨Nat.le_trans h0 (hr r e).1, (hr r e).2⟩), h2⟩
end
theorem kp_set {w0 W : World} {b bq bp : Nat} {m : MachD} {d : ConfD} {mv lv rv : Value} (h : RunAt w0 W b m d mv lv rv) {p : Addr} (ha : Apt b p.block lv rv) (h0 : w0.heap.size ≤ p.block) (hq : bq ≠ p.block) (hp : bp ≠ p.block) (u : Value) :
    KpR w0 b bq bp m mv W (W.setCell p u) ∧ RunAt w0 (W.setCell p u) b m d mv lv rv := by
  refine ⟨⟨(grownBy_setCell W p u).size, fun d' l' r' h' => ?_, Below.heap_setCell W p u bq hq, Below.heap_setCell W p u bp hp⟩, h.apart ha.nb ha.nl ha.nr h0 u⟩
  obtain ⟨rfl, rfl⟩ := h.vals h'
  exact h'.apart ha.nb ha.nl ha.nr h0 u
theorem FourR.set0 {W : World} {k : Nat} {a e n : Int} {s : Bool} (h : FourR W k a s e n) (x : Int) : FourR (W.setCell ⟨k, 0, none⟩ (.int .i64 x)) k x s e n :=
  ⟨h.b0.set_ 0 _, h.b1.far (by simp) _, h.b2.far (by simp) _, h.b3.far (by simp) _⟩
theorem FourR.set1 {W : World} {k : Nat} {a e n : Int} {s : Bool} (h : FourR W k a s e n) (x : Bool) : FourR (W.setCell ⟨k + 1, 0, none⟩ (.bool x)) k a x e n :=
  ⟨h.b0.far (by simp) _, h.b1.set_ 0 _, h.b2.far (by simp) _, h.b3.far (by simp) _⟩
theorem FourR.set2 {W : World} {k : Nat} {a e n : Int} {s : Bool} (h : FourR W k a s e n) (x : Int) : FourR (W.setCell ⟨k + 1 + 1, 0, none⟩ (.int .i64 x)) k a s x n :=
  ⟨h.b0.far (by show k ≠ k + 1 + 1; omega) _, h.b1.far (by simp) _, h.b2.set_ 0 _, h.b3.far (by simp) _⟩
theorem FourR.set3 {W : World} {k : Nat} {a e n : Int} {s : Bool} (h : FourR W k a s e n) (x : Int) : FourR (W.setCell ⟨k + 1 + 1 + 1, 0, none⟩ (.int .i64 x)) k a s e x :=
  ⟨h.b0.far (by show k ≠ k + 1 + 1 + 1; omega) _, h.b1.far (by show k + 1 ≠ k + 1 + 1 + 1; omega) _, h.b2.far (by simp) _, h.b3.set_ 0 _⟩
set_option maxRecDepth 100000 in
set_option maxHeartbeats 4000000 in
theorem run_c (w0 w : World) (b : Nat) (m : MachD) (c : ConfD) (mv lv rv : Value) (N : Nat) (hN : N ≤ 100000) (hm : machOk m = true) (hg : IGood m c) (hf : fitI c = true) (h : RunAt w0 w b m c mv lv rv) :
    Calls Tryz.prog 133 #[.pointer (some ⟨b, 0, none⟩), .int .i64 N] w (RunOut w0 b m c mv N) := by
  refine (callsIn_wide (n := 8)).1 ?_
  refine callsIn_of_wp_marks Tryz.func133 rfl trivial ?_ rfl
  simp only [Tryz.ntmps133, List.size_toArray, List.length_cons, List.length_nil, Nat.reduceAdd, Nat.reduceSub, Array.replicate_succ, Array.replicate_zero, List.push_toArray, List.append_toArray, List.nil_append, List.cons_append]
  gi_wp2_with (refine ⟨trivial, ?_⟩; gi_at_call 109; refine (callsIn_wide.2 (steps_c _ (N : Int) _ ⟨_, rfl⟩)).mono ?_; rintro e w' ⟨rfl, rfl⟩)
  have hbl := h.blk.lt
  obtain ⟨W, hW⟩ : ∃ W, W = ((((((w.alloc (.cells #[.int .i64 0] 2)).alloc (.cells #[.bool false] 4)).alloc (.cells #[.int .i64 0] 2)).alloc (.cells #[.int .i64 0] 2)).alloc (.cells #[.pointer (some ⟨b, 0, none⟩)] 88)).alloc (.cells #[.int .i64 (N : Int)] 2)) := ⟨_, rfl⟩
  have hXW : Ext w W := by rw [hW]; exact (((((Ext.alloc _ _).trans (Ext.alloc _ _)).trans (Ext.alloc _ _)).trans (Ext.alloc _ _)).trans (Ext.alloc _ _)).trans (Ext.alloc _ _)
  have hF : FourR W w.heap.size 0 false 0 0 := by
    rw [hW]
    exact ⟨((((((Blk.new _ _ _ _ rfl).alloc _).alloc _).alloc _).alloc _).alloc _), (((((Blk.new _ _ _ _ (by simp)).alloc _).alloc _).alloc _).alloc _), ((((Blk.new _ _ _ _ (by simp)).alloc _).alloc _).alloc _), (((Blk.new _ _ _ _ (by simp)).alloc _).alloc _)⟩
  have hR := h.ext hXW
  have hap : ∀ i, w.heap.size ≤ i → Apt b i lv rv := fun i hi => ⟨by omega, fun e => by have := (h.l.lt i e).2; omega, fun e => by have := (h.r.lt i e).2; omega⟩
  have hB : BoxR W b (w.heap.size + 1 + 1 + 1 + 1 + 1) (w.heap.size + 1 + 1 + 1 + 1) N lv rv := by
    have a5 := hap (w.heap.size + 1 + 1 + 1 + 1 + 1) (by omega)
    have a4 := hap (w.heap.size + 1 + 1 + 1 + 1) (by omega)
    refine ⟨?_, ?_, a5.nl, a5.nr, a4.nl, a4.nr, a5.nb, a4.nb⟩
    · rw [hW]; exact Blk.new _ _ _ _ (by simp)
    · rw [hW]; exact (Blk.new _ _ _ _ (by simp)).alloc _
  have hsz : W.heap.size = w.heap.size + 1 + 1 + 1 + 1 + 1 + 1 := by rw [hW]; simp
  rw [← hW]
  clear hW
  have hlow : w0.heap.size ≤ W.heap.size := hR.ext0.size
  obtain ⟨k, hk⟩ : ∃ k, k = w.heap.size := ⟨_, rfl⟩
  rw [← hk] at hF hap hB hsz ⊢
  have hw0k : w0.heap.size ≤ k := by rw [hk]; exact h.ext0.size
  clear hk h
  have h1 : 1 ≤ 8 := by omega
  refine wpIn_rangeFunc_W rfl h1 (gf := 154) (lb := #[.pointer (some ⟨k + 1 + 1 + 1 + 1 + 1, 0, none⟩), .pointer (some ⟨k + 1 + 1 + 1 + 1, 0, none⟩)]) rfl trivial (enters_of Tryz.func154 (by kernel_rfl) rfl)
    (steps1_w (8 - 1) (by omega) w0 W b (k + 1 + 1 + 1 + 1 + 1) (k + 1 + 1 + 1 + 1) m c mv lv rv N hN hm hg hf hR hB) (fun h k => KpR.trans h k) (fun W l o o' hl h1 h2 _ => KpR.turn W l o o' (by omega) (by omega) (by omega) h1 h2) (Below.refl _ _) (fun _ => rfl)
    (fun A B h => WrR.keeps h) (IRun w0 b m mv k) (IxRun w0 k) (iRun_own hlow) (ixRun_own hlow) iRun_w (stR_own hlow) (sR_own hlow) (spR_own hlow)
    ⟨⟨_, lv, rv, hR, fun i _ => hap (k + i) (by omega)⟩, hF, fun x hx => by cases hx⟩
    (fun x => { tmps := #[.pointer (some ⟨b, 0, none⟩), .int .i64 (N : Int), undef, undef, .pointer (some ⟨k, 0, none⟩), .pointer (some ⟨k + 1, 0, none⟩), .pointer (some ⟨k + 1 + 1, 0, none⟩), .pointer (some ⟨k + 1 + 1 + 1, 0, none⟩), .int .i64 x.1, .bool x.2, .pointer (some ⟨b, 0, none⟩), .int .i64 (N : Int), .func (.func 154) #[] #[.pointer (some ⟨k + 1 + 1 + 1 + 1 + 1, 0, none⟩), .pointer (some ⟨k + 1 + 1 + 1 + 1, 0, none⟩)], .int .i64 x.1, .bool x.2, undef, undef, undef, undef, undef, undef], defers := [] }) ?assign ?body ?done ?stop
  case assign =>
    intro l x W K hK
    gi_wp2
    exact hK
  case body =>
    rintro l pre ⟨n, room⟩ W' ⟨⟨d, l1, r1, hR1, hA1⟩, hF1, hT1⟩ hst _
    have c0 := hF1.b0.cell 0
    have c1 := hF1.b1.cell 0
    have c2 := hF1.b2.cell 0
    have c3 := hF1.b3.cell 0
    have f0 := hF1.b0.frozen 0
    have f1 := hF1.b1.frozen 0
    have f2 := hF1.b2.frozen 0
    have f3 := hF1.b3.frozen 0
    simp only [List.getElem?_toArray, List.getElem?_cons_zero] at c0 c1 c2 c3
    have a0 := hA1 0 (by omega)
    have a1 := hA1 1 (by omega)
    have a2 := hA1 2 (by omega)
    have a3 := hA1 3 (by omega)
    cases room with
    | true =>
      gi_wp2
      obtain ⟨hK3, hR3⟩ := kp_set (bq := k + 1 + 1 + 1 + 1 + 1) (bp := k + 1 + 1 + 1 + 1) (p := ⟨k + 1 + 1 + 1, 0, none⟩) hR1 a3 (by show w0.heap.size ≤ k + 1 + 1 + 1; omega) (by show k + 1 + 1 + 1 + 1 + 1 ≠ k + 1 + 1 + 1; omega) (by show k + 1 + 1 + 1 + 1 ≠ k + 1 + 1 + 1; omega) (.int .i64 n)
      refine ⟨(KeepsOthers.setCell _ _ _).from _, hK3, ⟨_, l1, r1, hR3, hA1⟩, by rw [lastN_snoc]; exact hF1.set3 n, fun x hx => ?_⟩
      rcases List.mem_append.1 hx with hx | hx
      · exact hT1 x hx
      · simp at hx; rw [hx]
    | false =>
      gi_wp2
      obtain ⟨hK1, hR2⟩ := kp_set (bq := k + 1 + 1 + 1 + 1 + 1) (bp := k + 1 + 1 + 1 + 1) (p := ⟨k, 0, none⟩) hR1 a0 hw0k (by show k + 1 + 1 + 1 + 1 + 1 ≠ k; omega) (by show k + 1 + 1 + 1 + 1 ≠ k; omega) (.int .i64 0)
      obtain ⟨hK2, hR3⟩ := kp_set (bq := k + 1 + 1 + 1 + 1 + 1) (bp := k + 1 + 1 + 1 + 1) (p := ⟨k + 1, 0, none⟩) hR2 a1 (by show w0.heap.size ≤ k + 1; omega) (by show k + 1 + 1 + 1 + 1 + 1 ≠ k + 1; omega) (by show k + 1 + 1 + 1 + 1 ≠ k + 1; omega) (.bool false)
      obtain ⟨hK3, hR4⟩ := kp_set (bq := k + 1 + 1 + 1 + 1 + 1) (bp := k + 1 + 1 + 1 + 1) (p := ⟨k + 1 + 1, 0, none⟩) hR3 a2 (by show w0.heap.size ≤ k + 1 + 1; omega) (by show k + 1 + 1 + 1 + 1 + 1 ≠ k + 1 + 1; omega) (by show k + 1 + 1 + 1 + 1 ≠ k + 1 + 1; omega) (.int .i64 5)
      exact ⟨(((KeepsOthers.setCell _ _ _).trans (KeepsOthers.setCell _ _ _)).trans (KeepsOthers.setCell _ _ _)).from _, (hK1.trans hK2).trans hK3, rfl, ⟨pre, (n, false), rfl, rfl⟩, ⟨_, ((hF1.set0 0).set1 false).set2 5⟩, hR4.ext0⟩
  case done =>
    rintro D xs W' hD ⟨i, l2, r2, p, hR2, hcase⟩ ⟨⟨d, l1, r1, hR1, hA1⟩, hF1, hT1⟩ hK
    rcases hcase with ⟨rfl, hEnd⟩ | ⟨rfl, _⟩
    · obtain ⟨rfl, rfl⟩ := hR2.vals hR1
      rw [lastN_snoc] at hF1
      have hgi : IGood m (cfgI m c i) := cfg_good hm hg i hEnd.runs.no
      have hfi := fit_both (hEnd.runs.fit i (Nat.le_refl _))
      have hH := fun w' h => halts_c w0 w' b m _ mv l2 r2 h (by omega) hm hgi
      have HEND := Lib.hid hEnd
      have hRd := hR2.ext (Ext.drew W')
      have c3 := hF1.b3.cell 0
      simp only [List.getElem?_toArray, List.getElem?_cons_zero] at c3
      have c3d := (Ext.drew W').cell c3
      gi_wp2
      refine wpIn_wide.2 ?_
      go_region_held3 (fun w' => w'.cell? ⟨k + 1 + 1 + 1, 0, none⟩ = some (.int .i64 (i : Int)))
        (first | go_keep | exact c34 | (rw [World.cell?_setCell_other _ _ _ _ (fun e => by injection e with e; omega)]; exact c34) | (rw [World.cell?_setCell_other _ _ _ _ (fun e => by injection e with e; omega)]; rw [World.cell?_setCell_other _ _ _ _ (fun e => by injection e with e; omega)]; exact c34) | (rw [World.cell?_setCell_other _ _ _ _ (fun e => by injection e with e; omega)]; rw [World.cell?_setCell_other _ _ _ _ (fun e => by injection e with e; omega)]; rw [World.cell?_setCell_other _ _ _ _ (fun e => by injection e with e; omega)]; exact c34))
        (first
          | (go_at_call 50; ((with_reducible refine (hH _ hRd).mono ?_)); rintro e w4 ⟨rfl, hx4⟩; have c34 := hx4.cell c3d; have hF4 := hF1.turn (⟨Below.os ((Ext.drew W').trans hx4), Below.tape ((Ext.drew W').trans hx4), Below.output ((Ext.drew W').trans hx4), Ext.size ((Ext.drew W').trans hx4), fun q hq _ => Below.block ((Ext.drew W').trans hx4) q hq⟩ : W'.grownBy w4 none) (fun r e => by cases e); have z0 := hF4.b0.cell 0; have z1 := hF4.b1.cell 0; have z2 := hF4.b2.cell 0; have y0 := hF4.b0.frozen 0; have y1 := hF4.b1.frozen 0; have y2 := hF4.b2.frozen 0))
      have hE4 := (Ext.drew W').trans hx4
      have hK4 : w4.heap[D]? = some (.deferred (some [])) := hE4.block hK
      have R4 := hRd.ext hx4
      have a0 := hA1 0 (by omega)
      have a1 := hA1 1 (by omega)
      have a2 := hA1 2 (by omega)
      obtain ⟨hb, hhb⟩ : ∃ x, decide (lookI m (cfgI m c i) = noR) = x := ⟨_, rfl⟩
      rw [hhb]
      have HHB := Lib.hid hhb
      clear hhb
      have R5 := R4.apart (p := ⟨k, 0, none⟩) a0.nb a0.nl a0.nr hw0k (.int .i64 (i : Int))
      have R6 := R5.apart (p := ⟨k + 1, 0, none⟩) a1.nb a1.nl a1.nr (by show w0.heap.size ≤ k + 1; omega) (.bool hb)
      have R7 := R6.apart (p := ⟨k + 1 + 1, 0, none⟩) a2.nb a2.nl a2.nr (by show w0.heap.size ≤ k + 1 + 1; omega) (.int .i64 0)
      have F7 := ((hF4.set0 (i : Int)).set1 hb).set2 0
      have K7 := (KeepsOthers.setCell _ ⟨k + 1 + 1, 0, none⟩ (.int .i64 0)).same D _ ((KeepsOthers.setCell _ ⟨k + 1, 0, none⟩ (.bool hb)).same D _ ((KeepsOthers.setCell w4 ⟨k, 0, none⟩ (.int .i64 (i : Int))).same D _ hK4 rfl) rfl) rfl
      clear z0 z1 z2 y0 y1 y2 c34 c3 c3d
      generalize ((w4.setCell ⟨k, 0, none⟩ (.int .i64 (i : Int))).setCell ⟨k + 1, 0, none⟩ (.bool hb)).setCell ⟨k + 1 + 1, 0, none⟩ (.int .i64 0) = W7 at *
      gi_wp2
      refine ⟨by simp, .inl ⟨_, _, rfl, run_takeDeferred K7, ?_⟩⟩
      have hD0 : w0.heap.size ≤ D := by omega
      have hgr := grownBy_putObj' W7 D (.deferred none)
      have hF2 := F7.turn hgr (fun r e => by cases e; exact ⟨_, K7, rfl⟩)
      have e0 := hF2.b0.cell 0
      have e1 := hF2.b1.cell 0
      have e2 := hF2.b2.cell 0
      simp only [List.getElem?_toArray, List.getElem?_cons_zero] at e0 e1 e2
      refine ⟨.tuple #[.int .i64 (i : Int), .bool hb, .int .i64 0], by simp [results, Tryz.f133, go_sem, e0, e1, e2], .inl ⟨i, l2, r2, HEND.out, by rw [HHB.out], ?_⟩⟩
      exact R7.turn hgr (fun r e => by cases e; exact ⟨hD0, _, K7, rfl⟩)
    · exact absurd (hT1 _ (List.mem_append.2 (.inr (List.mem_singleton.2 rfl)))) (by simp)
  case stop =>
    rintro D cd pre W' hD ⟨i, l2, r2, p, hR2, hcase⟩ ⟨rfl, ⟨p', x, hpx, hx2⟩, ⟨n, hF1⟩, hE⟩ hK
    rcases hcase with ⟨rfl, _⟩ | ⟨rfl, hFull⟩
    · have := List.append_inj_right' hpx rfl
      simp at this
      rw [← this] at hx2
      simp at hx2
    · have c0 := hF1.b0.cell 0
      have c1 := hF1.b1.cell 0
      have c2 := hF1.b2.cell 0
      simp only [List.getElem?_toArray, List.getElem?_cons_zero] at c0 c1 c2
      gi_wp2
      refine ⟨by simp, .inl ⟨_, _, rfl, run_takeDeferred hK, ?_⟩⟩
      have hD0 : w0.heap.size ≤ D := by omega
      have hgr := grownBy_putObj' W' D (.deferred none)
      have hF2 := hF1.turn hgr (fun r e => by cases e; exact ⟨_, hK, rfl⟩)
      have e0 := hF2.b0.cell 0
      have e1 := hF2.b1.cell 0
      have e2 := hF2.b2.cell 0
      simp only [List.getElem?_toArray, List.getElem?_cons_zero] at e0 e1 e2
      refine ⟨.tuple #[.int .i64 0, .bool false, .int .i64 5], by simp [results, Tryz.f133, go_sem, e0, e1, e2], .inr ⟨⟨i, hFull⟩, rfl, ?_⟩⟩
      exact hE.grown hgr (fun r e => by cases e; exact hD0)
end Go.Proofs.YtojiammendjpkaaGreat
end
section
set_option linter.unusedSimpArgs false
set_option linter.unusedVariables false
namespace Go.Proofs.YtojiammendjpkaaGreat
open Go Go.RowKit Go.Proofs
set_option maxHeartbeats 400000
theorem conf_run {m : MachD} {c : ConfD} (h : confB m c = true) : IGood m c ∧ fitI c = true := by
  simp only [confB, sideOk, inB, Bool.and_eq_true, decide_eq_true_eq, List.all_eq_true] at h
  obtain ⟨⟨hq, ⟨hl1, hl2⟩, _⟩, ⟨hr1, hr2⟩, _⟩ := h
  refine ⟨⟨by omega, by omega, fun z hz => by have := hl2 z hz; omega, fun z hz => by have := hr2 z hz; omega⟩, ?_⟩
  simp [fitI]
  omega
/-- What a run of a machine gives: the configuration, the steps, whether it halts, a code. -/
def RunVal (w w' : World) (x : ConfD) (n : Int) (s : Bool) (k : Int) (e : Ending) : Prop :=
  ∃ lv rv, e = .returned (.tuple #[.agg #[.int .i64 x.q, lv, rv], .int .i64 n, .bool s, .int .i64 k]) ∧ OwnInts w.heap.size w' lv x.l ∧ OwnInts w.heap.size w' rv x.r ∧ (∀ g, lv.ownBlock = some g → rv.ownBlock ≠ some g)
def RunRes (w : World) (m : MachD) (c : ConfD) (n : Int) (e : Ending) (w' : World) : Prop :=
  Ext w w' ∧
    ((((machOk m && confB m c) = false) ∧ RunVal w w' blankC 0 false 1 e) ∨
     (((machOk m && confB m c) = true) ∧ inB n 1 20000 = false ∧ RunVal w w' blankC 0 false 2 e) ∨
     (((machOk m && confB m c) = true) ∧ inB n 1 20000 = true ∧ ∃ i, FullAt m c n.toNat i ∧ RunVal w w' blankC 0 false 5 e) ∨
     (((machOk m && confB m c) = true) ∧ inB n 1 20000 = true ∧ ∃ i : Nat, EndAt m c n.toNat i ∧ RunVal w w' (cfgI m c i) i (decide (lookI m (cfgI m c i) = noR)) 0 e))
theorem RunVal.blank {w w1 : World} {n k : Int} {s : Bool} {b : Nat} (x y z : Value) : RunVal w (((w1.setCell ⟨b, 0, none⟩ x).setCell ⟨b, 1, none⟩ y).setCell ⟨b, 2, none⟩ z) blankC n s k (.returned (.tuple #[.agg #[.int .i64 0, .slice none 0 0, .slice none 0 0], .int .i64 n, .bool s, .int .i64 k])) :=
  ⟨_, _, rfl, World.ownsRow_nil .., World.ownsRow_nil .., fun g hg => by simp [Value.ownBlock] at hg⟩
theorem Ext.three {w w1 : World} {b : Nat} (h : Ext w w1) (hb : w.heap.size ≤ b) (x y z : Value) : Ext w (((w1.setCell ⟨b, 0, none⟩ x).setCell ⟨b, 1, none⟩ y).setCell ⟨b, 2, none⟩ z) :=
  ((h.setCell hb _).setCell hb _).setCell hb _
set_option maxRecDepth 20000 in
set_option maxHeartbeats 4000000 in
theorem RunMachine_c (rvm : Value) (m : MachD) (c : ConfD) (lv qv : Value) (n : Int) (w : World) (hr : Rules w rvm m.rules) (hl : Ints w lv c.l) (hq : Ints w qv c.r) (fl : Flat lv) (fr : Flat qv) :
    Calls Tryz.prog 73 #[.agg #[.int .i64 m.sy, .int .i64 m.st, rvm], .agg #[.int .i64 c.q, lv, qv], .int .i64 n] w (RunRes w m c n) := by
  obtain ⟨Am, cm, rfl, _, _⟩ := hr.form
  obtain ⟨Al, cl, rfl, _, _⟩ := hl.form
  obtain ⟨Ar, cr, rfl, _, _⟩ := hq.form
  obtain ⟨W, hW⟩ : ∃ W, W = ((w.alloc (.cells #[.int .i64 m.sy, .int .i64 m.st, .slice Am m.rules.length cm] 26)).alloc (.cells #[.int .i64 c.q, .slice Al c.l.length cl, .slice Ar c.r.length cr] 29)).alloc (.cells #[.int .i64 0, .slice none 0 0, .slice none 0 0] 29) := ⟨_, rfl⟩
  have hXW : Ext w W := by rw [hW]; exact ((Ext.alloc _ _).trans (Ext.alloc _ _)).trans (Ext.alloc _ _)
  have bM : Blk W w.heap.size 26 #[.int .i64 m.sy, .int .i64 m.st, .slice Am m.rules.length cm] := by rw [hW]; exact ((Blk.new _ _ _ _ rfl).alloc _).alloc _
  have bC : Blk W (w.heap.size + 1) 29 #[.int .i64 c.q, .slice Al c.l.length cl, .slice Ar c.r.length cr] := by rw [hW]; exact (Blk.new _ _ _ _ (by simp)).alloc _
  have bO : Blk W (w.heap.size + 1 + 1) 29 #[.int .i64 0, .slice none 0 0, .slice none 0 0] := by rw [hW]; exact Blk.new _ _ _ _ (by simp)
  have hb2 : w.heap.size ≤ w.heap.size + 1 + 1 := by omega
  have hrW := hr.ext hXW
  have hlW := hl.ext hXW
  have hqW := hq.ext hXW
  go_enter Tryz.func73, Tryz.ntmps73
  go_wp2_with fail
  rw [← hW]
  clear hW
  refine (ValidConfig_c _ _ m c _ ⟨_, rfl, hrW⟩ ⟨_, _, rfl, hlW, hqW⟩).mono ?_
  rintro e w1 ⟨rfl, hx1⟩
  have hX1 := hXW.trans hx1
  have ob := (bO.ext hx1).cell
  have of_ := (bO.ext hx1).frozen
  cases hv : (machOk m && confB m c) with
  | false =>
    have HV := Lib.hid hv
    clear hv
    go_wp2
    exact bodyPost_ret (v := .tuple #[.agg #[.int .i64 0, .slice none 0 0, .slice none 0 0], .int .i64 0, .bool false, .int .i64 1]) (by simp [results, Tryz.results73, go_sem, ob]) rfl ⟨hX1.three hb2 _ _ _, .inl ⟨HV.out, RunVal.blank _ _ _⟩⟩
  | true =>
    have HV := Lib.hid hv
    clear hv
    go_wp2_with fail
    refine (budgetOk_c _ _).mono ?_
    rintro e w' ⟨rfl, rfl⟩
    cases hn : inB n 1 20000 with
    | false =>
      have HN := Lib.hid hn
      clear hn
      go_wp2
      exact bodyPost_ret (v := .tuple #[.agg #[.int .i64 0, .slice none 0 0, .slice none 0 0], .int .i64 0, .bool false, .int .i64 2]) (by simp [results, Tryz.results73, go_sem, ob]) rfl ⟨hX1.three hb2 _ _ _, .inr (.inl ⟨HV.out, HN.out, RunVal.blank _ _ _⟩)⟩
    | true =>
      have hn' := hn
      simp only [inB, Bool.and_eq_true, decide_eq_true_eq] at hn'
      obtain ⟨N, rfl⟩ : ∃ N : Nat, n = N := ⟨n.toNat, by omega⟩
      have HN := Lib.hid hn
      clear hn
      have hmc := HV.out
      simp only [Bool.and_eq_true] at hmc
      obtain ⟨hg, hf⟩ := conf_run hmc.2
      have hmo := hmc.1
      have hff := fit_both hf
      have HM := Lib.hid hmo
      have HF := Lib.hid hf
      clear hmc hmo hf
      have m0 := (bM.ext hx1).cell 0
      have m1 := (bM.ext hx1).cell 1
      have m2 := (bM.ext hx1).cell 2
      have c0 := (bC.ext hx1).cell 0
      have c1 := (bC.ext hx1).cell 1
      have c2 := (bC.ext hx1).cell 2
      simp only [List.getElem?_toArray, List.getElem?_cons_zero, List.getElem?_cons_succ] at m0 m1 m2 c0 c1 c2
      go_wp2_with fail
      refine (runnerOf_c w1 m c _ _ _ (hr.ext hX1) (hl.ext hX1) (hq.ext hX1) fl fr (by omega) (by omega)).mono ?_
      rintro e w2 ⟨b, l2, r2, rfl, R2⟩
      have hX2 := hX1.trans R2.ext0
      clear m0 m1 m2 c0 c1 c2
      go_wp2_with fail
      refine (run_c w1 w2 b m c _ l2 r2 N (by omega) HM.out hg HF.out R2).mono ?_
      rintro e w3 (⟨i, l3, r3, hE, rfl, R3⟩ | ⟨⟨i, hFull⟩, rfl, hx3⟩)
      · have hX3 := hX1.trans R3.ext0
        have hfi := fit_both (hE.runs.fit i (Nat.le_refl _))
        have HE := Lib.hid hE
        clear hE
        go_wp2_with fail
        refine (config_c w1 w3 b m _ _ l3 r3 R3 (by omega) (by omega)).mono ?_
        rintro e w4 ⟨l4, r4, rfl, ol, orr, hap, hx4⟩
        have hX4 := hX3.trans hx4
        obtain ⟨d, hd⟩ : ∃ d, d = cfgI m c i := ⟨_, rfl⟩
        rw [← hd] at ol orr
        obtain ⟨A4, k4, rfl, _, _⟩ := ol.ints.form
        obtain ⟨B4, j4, rfl, _, _⟩ := orr.ints.form
        have HD := Lib.hid hd
        rw [← hd]
        obtain ⟨hb, hhb⟩ : ∃ x, x = decide (lookI m d = noR) := ⟨_, rfl⟩
        rw [← hhb]
        have HB := Lib.hid hhb
        clear hd hhb
        clear ob of_
        have bO4 := ((bO.ext hx1).ext R3.ext0).ext hx4
        have ob := bO4.cell
        have of_ := bO4.frozen
        have hb8 : w.heap.size + 1 + 1 < w3.heap.size := ((bO.ext hx1).ext R3.ext0).lt
        have n1 : ∀ g, (Value.slice A4 d.l.length k4).ownBlock = some g → g ≠ w.heap.size + 1 + 1 := fun g hg => by have := (ol.lt g hg).1; omega
        have n2 : ∀ g, (Value.slice B4 d.r.length j4).ownBlock = some g → g ≠ w.heap.size + 1 + 1 := fun g hg => by have := (orr.lt g hg).1; omega
        obtain ⟨dq, dl, dr⟩ := d
        simp only at ol orr hap n1 n2
        go_wp2
        refine bodyPost_ret (v := .tuple #[.agg #[.int .i64 dq, .slice A4 dl.length k4, .slice B4 dr.length j4], .int .i64 (i : Int), .bool hb, .int .i64 0]) (by simp [results, Tryz.results73, go_sem, ob]) rfl ⟨hX4.three hb2 _ _ _, .inr (.inr (.inr ⟨HV.out, HN.out, i, HE.out, ?_⟩))⟩
        rw [← HD.out, ← HB.out]
        refine ⟨_, _, rfl, ?_, ?_, hap⟩
        · exact ownsRow_base (ownsRow_far (ownsRow_far (ownsRow_far ol n1 _) n1 _) n1 _) hX3.size
        · exact ownsRow_base (ownsRow_far (ownsRow_far (ownsRow_far orr n2 _) n2 _) n2 _) hX3.size
      · have HFL := Lib.hid hFull
        clear hFull ob of_
        have bO3 := (bO.ext hx1).ext hx3
        have ob := bO3.cell
        have of_ := bO3.frozen
        go_wp2
        exact bodyPost_ret (v := .tuple #[.agg #[.int .i64 0, .slice none 0 0, .slice none 0 0], .int .i64 0, .bool false, .int .i64 5]) (by simp [results, Tryz.results73, go_sem, ob]) rfl ⟨(hX1.trans hx3).three hb2 _ _ _, .inr (.inr (.inl ⟨HV.out, HN.out, i, HFL.out, RunVal.blank _ _ _⟩))⟩
end Go.Proofs.YtojiammendjpkaaGreat
end
