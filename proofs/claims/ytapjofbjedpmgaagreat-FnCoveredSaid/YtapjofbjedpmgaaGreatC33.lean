/- The iterator over the steps of the program's runner has its contract. The machine is valid and the configuration is one of its.
Contract of the program's follower with its tracker, from the blank tape.
Contract of the program's run of a machine by its runner. The machine is valid and the configuration is one of its. -/
import Derived.Test.YtapjofbjedpmgaaGreatC31
import Derived.RangeFuncNested
import Derived.RangeFuncBound
import Derived.RangeFuncCalls
import Derived.RangeFuncLeaves
import Derived.Shelf.Abstract
import Derived.Shelf.RegionOpen
import Derived.WalkKit
import Derived.OwnWalkIn
import Derived.TacticsInMore
import Derived.LoopNIn
import Derived.LoopIn
import Derived.Test.YtapjofbjedpmgaaGreatC32
import Derived.Test.YtapjofbjedpmgaaGreatC10
section
set_option linter.unusedSimpArgs false
set_option linter.unusedVariables false
namespace Go.Proofs.YtapjofbjedpmgaaGreat
open Go Go.RowKit Go.Proofs Go.Shelf
attribute [local go_sem] Oper.semAt_some
set_option maxHeartbeats 400000
/-- The run ends behind i steps. -/
structure EndAt (m : MachD) (c : ConfD) (N i : Nat) : Prop where
  runs : RunsTo m c i
  le : i ≤ N
  stop : i = N ∨ lookI m (cfgI m c i) = noR
/-- There is no room behind i steps. -/
structure FullAt (m : MachD) (c : ConfD) (N i : Nat) : Prop where
  pos : 0 < i
  runs : RunsTo m c (i - 1)
  le : i ≤ N
  no : ¬ lookI m (cfgI m c (i - 1)) = noR
  full : fitI (cfgI m c i) = false
section
variable (w0 : World) (b bq bp : Nat) (m : MachD) (c : ConfD) (mv : Value) (N : Nat)
def WrR (A B : World) : Prop := ∃ d lv rv d' lv' rv', RunAt w0 A b m d mv lv rv ∧ RunAt w0 B b m d' mv lv' rv' ∧ Moved b A B lv rv lv' rv'
def KpR (W W' : World) : Prop := W.heap.size ≤ W'.heap.size ∧ (∀ d lv rv, RunAt w0 W b m d mv lv rv → RunAt w0 W' b m d mv lv rv) ∧ W'.heap[bq]? = W.heap[bq]? ∧ W'.heap[bp]? = W.heap[bp]?
def SR (xs : List (Int × Bool)) (W : World) : Prop :=
  ∃ (i : Nat) (lv rv : Value) (pre : List (Int × Bool)), RunAt w0 W b m (cfgI m c i) mv lv rv ∧ ((xs = pre ++ [((i : Int), true)] ∧ EndAt m c N i) ∨ (xs = pre ++ [((i : Int), false)] ∧ FullAt m c N i))
end
/-- The boxes of the iterator, apart from the sides. -/
structure BoxR (W : World) (b bq bp : Nat) (N : Nat) (lv rv : Value) : Prop where
  q : Blk W bq 2 #[.int .i64 N]
  p : Blk W bp 77 #[.pointer (some ⟨b, 0, none⟩)]
  lq : lv.ownBlock ≠ some bq
  rq : rv.ownBlock ≠ some bq
  lp : lv.ownBlock ≠ some bp
  rp : rv.ownBlock ≠ some bp
  bq_ : bq ≠ b
  bp_ : bp ≠ b
theorem BoxR.kept {W W' : World} {b bq bp N : Nat} {lv rv : Value} (h : BoxR W b bq bp N lv rv) (h1 : W'.heap[bq]? = W.heap[bq]?) (h2 : W'.heap[bp]? = W.heap[bp]?) : BoxR W' b bq bp N lv rv :=
  ⟨h1.trans h.q, h2.trans h.p, h.lq, h.rq, h.lp, h.rp, h.bq_, h.bp_⟩
end Go.Proofs.YtapjofbjedpmgaaGreat
end
section
set_option linter.unusedSimpArgs false
set_option linter.unusedVariables false
namespace Go.Proofs.YtapjofbjedpmgaaGreat
open Go Go.RowKit Go.Proofs
set_option maxHeartbeats 400000
/-- The records behind n configurations. -/
structure RecsAt (m : MachD) (c : ConfD) (n : Nat) (rs : List RecV) (lo hi : Int) : Prop where
  lo0 : lo ≤ 0
  hi0 : 0 ≤ hi
  each : ∀ r ∈ rs, 1 ≤ r.n ∧ r.n < n ∧ r.c = cfgI m c r.n ∧ ((r.side = 1 ∧ posI m c r.n ≤ hi) ∨ (r.side = -1 ∧ lo ≤ posI m c r.n))
  pair : rs.Pairwise fun a b => a.n < b.n ∧ (a.side = b.side → posI m c a.n ≠ posI m c b.n)
theorem RecsAt.start (m : MachD) (c : ConfD) : RecsAt m c 0 [] 0 0 := ⟨Int.le_refl _, Int.le_refl _, fun r hr => by simp at hr, List.Pairwise.nil⟩
theorem RecsAt.seen {m : MachD} {c : ConfD} {n : Nat} {rs rs' : List RecV} {lo hi lo' hi' : Int} (h : RecsAt m c n rs lo hi) (hs : SeenQ (cfgI m c n) (posI m c n) n rs rs' lo hi lo' hi') : RecsAt m c (n + 1) rs' lo' hi' := by
  have z0 : n = 0 → posI m c n = 0 := fun e => by subst e; rfl
  have h0 := h.lo0
  have h1 := h.hi0
  have hn : hi < posI m c n ∨ posI m c n < lo → 1 ≤ n := fun e => by
    by_cases hz : n = 0
    · have := z0 hz; omega
    · omega
  have mono : ∀ r ∈ rs, 1 ≤ r.n ∧ r.n < n + 1 ∧ r.c = cfgI m c r.n ∧ ((r.side = 1 ∧ posI m c r.n ≤ hi) ∨ (r.side = -1 ∧ lo ≤ posI m c r.n)) := fun r hr => by
    obtain ⟨a, b, d, e⟩ := h.each r hr
    exact ⟨a, by omega, d, e⟩
  rcases hs with ⟨hz, ⟨lv, rv, rfl⟩, rfl, rfl⟩ | ⟨hz, hz2, ⟨lv, rv, rfl⟩, rfl, rfl⟩ | ⟨_, _, rfl, rfl, rfl⟩
  · refine ⟨h.lo0, by omega, fun r hr => ?_, ?_⟩
    · rcases List.mem_append.1 hr with hr | hr
      · obtain ⟨a, b, d, e⟩ := mono r hr
        refine ⟨a, b, d, ?_⟩
        rcases e with e | e
        · exact .inl ⟨e.1, by omega⟩
        · exact .inr e
      · rw [List.mem_singleton.1 hr]
        exact ⟨hn (.inl hz), Nat.lt_succ_self _, rfl, .inl ⟨rfl, Int.le_refl _⟩⟩
    · refine List.pairwise_append.2 ⟨h.pair, List.pairwise_singleton _ _, fun a ha b hb => ?_⟩
      rw [List.mem_singleton.1 hb]
      obtain ⟨q1, q2, _, q3⟩ := h.each a ha
      refine ⟨q2, fun e => ?_⟩
      simp only at e
      rcases q3 with q3 | q3
      · simp only; omega
      · rw [q3.1] at e; exact absurd e (by decide)
  · refine ⟨by omega, h.hi0, fun r hr => ?_, ?_⟩
    · rcases List.mem_append.1 hr with hr | hr
      · obtain ⟨a, b, d, e⟩ := mono r hr
        refine ⟨a, b, d, ?_⟩
        rcases e with e | e
        · exact .inl e
        · exact .inr ⟨e.1, by omega⟩
      · rw [List.mem_singleton.1 hr]
        exact ⟨hn (.inr hz2), Nat.lt_succ_self _, rfl, .inr ⟨rfl, Int.le_refl _⟩⟩
    · refine List.pairwise_append.2 ⟨h.pair, List.pairwise_singleton _ _, fun a ha b hb => ?_⟩
      rw [List.mem_singleton.1 hb]
      obtain ⟨q1, q2, _, q3⟩ := h.each a ha
      refine ⟨q2, fun e => ?_⟩
      simp only at e
      rcases q3 with q3 | q3
      · rw [q3.1] at e; exact absurd e (by decide)
      · simp only; omega
  · exact ⟨h.lo0, h.hi0, mono, h.pair⟩
theorem SeenQ.len {c : ConfD} {z : Int} {n : Nat} {rs rs' : List RecV} {lo hi lo' hi' : Int} (h : SeenQ c z n rs rs' lo hi lo' hi') : rs'.length ≤ rs.length + 1 := by
  rcases h with ⟨_, ⟨lv, rv, rfl⟩, _⟩ | ⟨_, _, ⟨lv, rv, rfl⟩, _⟩ | ⟨_, _, rfl, _⟩ <;> simp
end Go.Proofs.YtapjofbjedpmgaaGreat
end
section
set_option linter.unusedSimpArgs false
set_option linter.unusedVariables false
namespace Go.Proofs.YtapjofbjedpmgaaGreat
open Go Go.RowKit Go.Proofs Go.Shelf
attribute [local go_sem] Oper.semAt_some
set_option maxHeartbeats 400000
section
variable {w0 w w' A B : World} {b bq bp : Nat} {m : MachD} {c d d' : ConfD} {mv lv rv lv' rv' : Value} {N : Nat}
theorem not_cells {k : Nat} {o : Obj} {t : TypeId} {cs : Array Value} (h : Blk A k t cs) (ho : ∃ o, A.heap[k]? = some o ∧ o.isCells = false) : False := by
  obtain ⟨o, h1, h2⟩ := ho
  rw [h] at h1
  cases h1
  cases h2
theorem own_not_cells {base k : Nat} {e : TypeId} {size n : Nat} {v : Value} {xs : List Value} (h : A.ownsRow base e size v n xs) (hv : v.ownBlock = some k) (ho : ∃ o, A.heap[k]? = some o ∧ o.isCells = false) : False := by
  rcases h.2 with ⟨rfl, _⟩ | ⟨g, cap, cur, rfl, _, hg, _⟩
  · simp [Value.ownBlock] at hv
  · simp [Value.ownBlock] at hv
    subst hv
    obtain ⟨o, h1, h2⟩ := ho
    rw [hg] at h1
    cases h1
    cases h2
/-- What no runner has is turned. -/
theorem RunAt.turn (h : RunAt w0 A b m d mv lv rv) {row : Option Nat} (hg : A.grownBy B row) (hr : ∀ r, row = some r → w0.heap.size ≤ r ∧ ∃ o : Obj, A.heap[r]? = some o ∧ o.isCells = false) : RunAt w0 B b m d mv lv rv := by
  refine ⟨h.blk.kept hg (fun e => not_cells (o := .cells #[] 0) h.blk (hr b e.symm).2), h.rules0, h.ext0.grown hg (fun k hk => (hr k hk).1), ?_, ?_, h.ap, h.low⟩
  · exact own_same h.l (fun g hgl => hg.block g (h.l.lt g hgl).2 (fun e => own_not_cells h.l hgl (hr g e.symm).2))
  · exact own_same h.r (fun g hgl => hg.block g (h.r.lt g hgl).2 (fun e => own_not_cells h.r hgl (hr g e.symm).2))
theorem RunAt.apart (h : RunAt w0 A b m d mv lv rv) {p : Addr} (hb : p.block ≠ b) (hl : lv.ownBlock ≠ some p.block) (hr : rv.ownBlock ≠ some p.block) (hp : w0.heap.size ≤ p.block) (u : Value) : RunAt w0 (A.setCell p u) b m d mv lv rv :=
  ⟨h.blk.far (Ne.symm hb) u, h.rules0, h.ext0.setCell hp u, ownsRow_far h.l (fun k hk e => hl (by rw [← e]; exact hk)) u, ownsRow_far h.r (fun k hk e => hr (by rw [← e]; exact hk)) u, h.ap, h.low⟩
theorem KpR.trans {C : World} (h : KpR w0 b bq bp m mv A B) (k : KpR w0 b bq bp m mv B C) : KpR w0 b bq bp m mv A C :=
  ⟨Nat.le_trans h.1 k.1, fun d lv rv hr => k.2.1 d lv rv (h.2.1 d lv rv hr), k.2.2.1.trans h.2.2.1, k.2.2.2.trans h.2.2.2⟩
theorem KpR.turn (W : World) (l : Nat) (o o' : Obj) (h0 : w0.heap.size ≤ l) (hq : bq < l) (hp : bp < l) (h : W.heap[l]? = some o) (ho : o.isCells = false) : KpR w0 b bq bp m mv W (W.putObj l o') := by
  have hg := grownBy_putObj' W l o'
  have hl := (Array.getElem?_eq_some_iff.1 h).1
  exact ⟨hg.size, fun d lv rv hr => hr.turn hg (fun r e => by cases e; exact ⟨h0, o, h, ho⟩), hg.block bq (by omega) (fun e => by injection e with e; omega), hg.block bp (by omega) (fun e => by injection e with e; omega)⟩
theorem WrR.keeps (h : WrR w0 b m mv A B) : KeepsOthers A B := by
  obtain ⟨d, lv, rv, d', lv', rv', h1, h2, hm⟩ := h
  refine ⟨hm.size, fun k o hk ho => ?_⟩
  have hlt := (Array.getElem?_eq_some_iff.1 hk).1
  refine (hm.same k hlt (fun e => ?_) (fun e => own_not_cells h1.l e ⟨o, hk, ho⟩) (fun e => own_not_cells h1.r e ⟨o, hk, ho⟩)).trans hk
  subst e
  exact not_cells (o := o) h1.blk ⟨o, hk, ho⟩
end
/-- The four boxes of a run: three results, and the number of steps. -/
structure FourR (W : World) (k : Nat) (a : Int) (s : Bool) (e n : Int) : Prop where
  b0 : Blk W k 2 #[.int .i64 a]
  b1 : Blk W (k + 1) 4 #[.bool s]
  b2 : Blk W (k + 2) 2 #[.int .i64 e]
  b3 : Blk W (k + 3) 2 #[.int .i64 n]
theorem FourR.same {W W' : World} {k : Nat} {a e n : Int} {s : Bool} (h : FourR W k a s e n) (h0 : ∀ i, i < 4 → W'.heap[k + i]? = W.heap[k + i]?) : FourR W' k a s e n :=
  ⟨(h0 0 (by omega)).trans h.b0, (h0 1 (by omega)).trans h.b1, (h0 2 (by omega)).trans h.b2, (h0 3 (by omega)).trans h.b3⟩
theorem FourR.lt {W : World} {k : Nat} {a e n : Int} {s : Bool} (h : FourR W k a s e n) : k + 3 < W.heap.size := h.b3.lt
end Go.Proofs.YtapjofbjedpmgaaGreat
end
